import Derived.Test.YtacnjemndfmbhaaC6
import Derived.Test.YtacnjemndfmbhaaC7
import Derived.Test.YtacnjemndfmbhaaC9
import Derived.Test.YtacnjemndfmbhaaC10
namespace Go.Proofs.Ytacnjemndfmbhaa
open Go.RowKit
theorem aP52 {p : Prop} (h : p := by
    by_cases h4 : t.f0 = 4
    · rw [if_pos (show t.f0 = 1 ∨ t.f0 = 2 ∨ t.f0 = 3 ∨ t.f0 = 4 from .inr (.inr (.inr h4))), if_pos (show (t.f0 == 4) = true from beT h4)]
      repeat' split
      all_goals rfl
    rw [if_neg (show ¬ (t.f0 == 4) = true by simpa using h4), if_neg (show ¬ (t.f0 = 1 ∨ t.f0 = 2 ∨ t.f0 = 3 ∨ t.f0 = 4) by omega)]
    repeat' split
    all_goals rfl) : p := h
theorem aP121 {p : Prop} (h : p := by rw [ByteArray.size_append]; omega) : p := h
theorem aP51 {p : Prop} (h : p := by
    clear c2
    obtain rfl := Option.some.inj H
    go_wp2
    go_ret
    exact ⟨by first | rfl | (simp; done) | (simp [*]; done), by repeat (first | exact Drawn0.refl _ | apply Drawn0.step)⟩) : p := h
theorem aP120 {p : Prop} (h : p := by repeat (first | (with_reducible first | exact HB.out | apply below_alloc | apply pw_below_drewN | apply below_drew1 | refine below_set ?_ GE217.out) | exact HB.out)) : p := h
theorem aP48 {p : Prop} (h : p := by
    clear c4
    obtain rfl := Option.some.inj H
    go_wp2
    repeat (go_quiet (fail); try go_wp2)
    go_ret
    exact ⟨by first | rfl | (simp; done) | (simp [*]; done), by repeat (first | exact Drawn0.refl _ | apply Drawn0.step)⟩) : p := h
theorem aP47 {p : Prop} (h : p := by
    go_wp2
    repeat (go_quiet (fail); try go_wp2)
    go_ret
    exact ⟨by first | rfl | (simp; done) | (simp [*]; done), by repeat (first | exact Drawn0.refl _ | apply Drawn0.step)⟩) : p := h
theorem aP49 {p : Prop} (h : p := by
    go_wp2
    go_ret2
    exact ⟨_, by first | rfl | (simp [errW_none, errW_some] <;> rfl) | (simp [*, errW_none, errW_some] <;> rfl), by first | exact Kd.R_nil _ _ _ _ _ | exact Kd.N_nil _ _ _ _ _ | exact Kd.V_nil _ _ _ _ _ | exact Kd.Q_nil _ _ _ _ _ | exact Kd.S_nil _ _ _ _ _, by repeat (first | (with_reducible first | exact HB.out | apply below_alloc | apply pw_below_drewN | apply below_drew1) | exact HB.out)⟩) : p := h
theorem aP50 {p : Prop} (h : p := by
    go_ret2
    exact ⟨_, by first | rfl | (simp [errW_none, errW_some] <;> rfl) | (simp [*, errW_none, errW_some] <;> rfl), by first | exact Kd.R_nil _ _ _ _ _ | exact Kd.N_nil _ _ _ _ _ | exact Kd.V_nil _ _ _ _ _ | exact Kd.Q_nil _ _ _ _ _ | exact Kd.S_nil _ _ _ _ _, by repeat (first | (with_reducible first | exact HB.out | apply below_alloc | apply pw_below_drewN | apply below_drew1) | exact HB.out)⟩) : p := h
theorem aP119 {p : Prop} (h : p := by have := HK1.out; first | omega | exact Nat.le_refl _) : p := h
theorem aP118 {p : Prop} (h : p := by (with_reducible repeat (first | apply Kd.R_alloc | apply Kd.R_drewN | apply Kd.R_drew)); exact HO_6.out) : p := h
end Go.Proofs.Ytacnjemndfmbhaa
section
namespace Go.Proofs.Ytacnjemndfmbhaa.Q
open Go.RowKit Go.Proofs.YtacnjemndfmbhaaW.PrintWords Go.Proofs.YtacnjemndfmbhaaW.PrintLast Go.Proofs.YtacnjemndfmbhaaW.PrintMore
attribute [local go_sem] max2_int min2_int max_two min_two max_three min_three max_four min_four   -- for this text's walks alone
set_option linter.unusedVariables false
set_option linter.unusedSimpArgs false
attribute [local go_sem high] eqA53
mutual
def quipuref13_Parse.l0 : Nat → List ByteArray → Bool → List (S53) → Bool → Int → Option ((List (S53)) × Int)
 | 0, _, _, _, _, _ => none
 | k + 1, x4, x5, x6, x7, x8 => if x8 < (x4.length : Int) then (if 0 ≤ x8 then (if (rdOf ByteArray.empty x4 x8).toList = ([39] : List UInt8) then (if (wrap64 (x8 + 1)) < (x4.length : Int) then (if 0 ≤ (wrap64 (x8 + 1)) then (if (rdOf ByteArray.empty x4 (wrap64 (x8 + 1))).toList = ([39] : List UInt8) then ((quipuref13_with.f x6 (⟨#[39]⟩ : ByteArray)).bind fun t194 => (quipuref13_Parse.l0 k x4 x5 t194 x7 (wrap64 ((wrap64 (x8 + 1)) + 1)))) else (quipuref13_Parse.l0 k x4 x5 x6 (!x7) (wrap64 (x8 + 1)))) else (none)) else (quipuref13_Parse.l0 k x4 x5 x6 (!x7) (wrap64 (x8 + 1)))) else (if x7 = true then (quipuref13_Parse.j1 k x4 x5 x6 x7 x8 true) else ((quipuref13_Sign.f (rdOf ByteArray.empty x4 x8)).bind fun t198 => (if t198 = 0 then ((quipuref13_Letter.f (rdOf ByteArray.empty x4 x8)).bind fun t200 => (quipuref13_Parse.j1 k x4 x5 x6 x7 x8 (!t200))) else (quipuref13_Parse.j1 k x4 x5 x6 x7 x8 false))))) else (none)) else (if x5 = true then (if x7 = true then (some (([] : List (S53)), 130)) else ((quipuref13_Check.f k x6).bind fun t213 => (if t213 = 0 then (some (x6, 0)) else (some (([] : List (S53)), t213))))) else (some (([] : List (S53)), 131)))
def quipuref13_Parse.j1 : Nat → List ByteArray → Bool → List (S53) → Bool → Int → Bool → Option ((List (S53)) × Int)
 | 0, _, _, _, _, _, _ => none
 | k + 1, x4, x5, x6, x7, x8, x64 => if x64 = true then (if 0 ≤ x8 then (if x8 < (x4.length : Int) then ((quipuref13_with.f x6 (rdOf ByteArray.empty x4 x8)).bind fun t202 => (quipuref13_Parse.l0 k x4 x5 t202 x7 (wrap64 (x8 + 1)))) else (none)) else (none)) else (if 0 ≤ x8 then (if x8 < (x4.length : Int) then ((quipuref13_Letter.f (rdOf ByteArray.empty x4 x8)).bind fun t206 => (if t206 = true then (some (([] : List (S53)), 131)) else ((quipuref13_Sign.f (rdOf ByteArray.empty x4 x8)).bind fun t208 => ((quipuref13_signed.f k x6 t208).bind fun bt209 => (if bt209.2 = true then (quipuref13_Parse.l0 k x4 x5 bt209.1 x7 (wrap64 (x8 + 1))) else (some (([] : List (S53)), 131))))))) else (none)) else (none))
end
def quipuref13_Parse.f (k : Nat) (a0 : ByteArray) : Option ((List (S53)) × Int) := (quipuref13_Runes.f k a0).bind fun bt185 => (quipuref13_Parse.l0 k bt185.1 bt185.2 (([] : List (S53))) false 0)
set_option maxHeartbeats 8000000 in
set_option maxRecDepth 100000 in
theorem quipuref13_Parse.calls (k : Nat) (a0 : ByteArray) (r1 : List (S53)) (r2 : Int) (w : World) (h : quipuref13_Parse.f k a0 = some (r1, r2)) :
  Calls Try.prog 49 #[.string a0] w fun e w' => ∃ v0_ : Value, e = .returned (.tuple #[v0_, .int .i64 r2]) ∧ Kd.R k53 53 w' w.heap.size (fun _ => True) v0_ r1 ∧ Below w.heap.size w w' := by
 have HB := aMk (Below.refl w.heap.size w)
 have H : ((quipuref13_Runes.f k a0).bind fun bt185 => (quipuref13_Parse.l0 k bt185.1 bt185.2 (([] : List (S53))) false 0)) = some (r1, r2) := h
 clear h
 replace H := Option.bind_eq_some_iff.mp H
 obtain ⟨⟨t185, t186⟩, A20, H⟩ := H
 replace H : (quipuref13_Parse.l0 k t185 t186 (([] : List (S53))) false 0) = some (r1, r2) := H
 have A2 := aMk A20
 clear A20
 obtain ⟨y189, hy189⟩ : ∃ y_ : List (S53), y_ = (([] : List (S53))) := ⟨_, rfl⟩
 replace H : (quipuref13_Parse.l0 k t185 t186 y189 false 0) = some (r1, r2) := by first | (rw [hy189]; with_reducible exact H) | (have H2_ := (Option.bind_some _ _).symm.trans H; rw [hy189]; with_reducible exact H2_) | (have H2_ := (Option.bind_some _ _).symm.trans H; with_reducible exact H2_) | with_reducible exact H | (rw [hy189]; exact H) | exact H
 have Ny189 := aMk hy189
 clear hy189
 have H' := aMk H
 clear H
 go_enter Try.func49, Try.ntmps49
 go_wp2_with (first | ((with_reducible refine gate_callee (f := 69) rfl ?_); refine goesL_ (some 14) rfl rfl Try.func69 (by kernel_rfl) rfl #[.string a0] rfl (aP76) ?_; (with_reducible refine (quipuref13_Runes.calls k a0 t185 t186 _ A2.out).mono ?_); rintro e w3 ⟨v187, rfl, ho0, hb⟩; refine ⟨_, rfl, ?_⟩; have n0_ := aMk (Kd.R_lower ho0 (below_size (aP80))); have n1_ := aMk (below_step (aP80) hb); clear HB; have HO188 := n0_; have HB := n1_; clear n0_ n1_; (try clear hb); (try clear hb2); (try clear hk); (try clear hi); (try clear ho0)) | ((with_reducible refine gate_dst (N := 17) rfl ?_); refine Kd.R_lit k53 _ 53 ?hg (N := 17) ?hd (xs := ([] : List (S53))) (inner := []) (ok := fun _ => True) (okp := fun _ => True) ?hr ?hp (fun _ hk => hk) trivial (Below.refl _ _) (Nat.le_refl _) (by simp) ?_; (case hd => rfl); (case hg => rfl); (case hr => first | (go_simp; done) | (go_simp; rfl)); (case hp => exact (Reps.none _ _)); intro v190 w4 ho5 hb hg_ hnew_; clear hg_ hnew_; (first | rw [← Ny189.out] at ho5 | (simp only [Int.reduceToNat] at ho5; rw [← Ny189.out] at ho5)); have n0_ := aMk (Kd.R_below (by (with_reducible repeat (first | apply Kd.R_alloc | apply Kd.R_drewN | apply Kd.R_drew)); exact HO188.out) hb); have n1_ := aMk (Kd.R_lower ho5 (below_size (aP80))); have n2_ := aMk (below_step (aP80) hb); clear HO188; clear HB; have HO188 := n0_; have HO191 := n1_; have HB := n2_; clear n0_ n1_ n2_; clear hb ho5))
 go_loopg [6, 7, 8] k (fun kq v6 v7 v8 w' => ∃ (x6_1 : List (S53)) (x7_1 : Bool) (x8_1 : Int), v7 = .bool x7_1 ∧ v8 = .int .i64 x8_1 ∧ Aside0 (quipuref13_Parse.l0 kq t185 t186 x6_1 x7_1 x8_1 = some (r1, r2)) ∧ Aside0 (kq ≤ k) ∧ Aside0 (Kd.R Kd.string 9 w' w.heap.size (fun _ => True) v187 t185) ∧ Aside0 (Kd.R k53 53 w' w.heap.size (fun _ => True) v6 x6_1) ∧ Aside0 (Below w.heap.size w w'))
 case atStart => exact ⟨(y189), (false), (0), (aP77), (aP77), H', ⟨Nat.le_refl _⟩, ⟨by (with_reducible repeat (first | apply Kd.R_alloc | apply Kd.R_drewN | apply Kd.R_drew)); exact HO188.out⟩, ⟨by (with_reducible repeat (first | apply Kd.R_alloc | apply Kd.R_drewN | apply Kd.R_drew)); exact HO191.out⟩, ⟨aP80⟩⟩
 case round =>
  clear H'
  try clear p2
  try clear c4
  obtain ⟨x6_1, x7_1, x8_1, rfl, rfl, HA, HK1, HO_4, HO_6, HB⟩ := hrel
  cases gk with
  | zero => exact absurd HA.out (by simp [quipuref13_Parse.l0])
  | succ k1 =>
   have H := HA.out
   clear HA
   simp only [quipuref13_Parse.l0] at H
   by_cases c6 : x8_1 < (t185.length : Int)
   ·rw [if_pos c6] at H
    have c6b0 : decide (x8_1 < (t185.length : Int)) = true := dTr c6
    clear c6
    by_cases c7 : 0 ≤ x8_1
    ·rw [if_pos c7] at H
     have c7b0 : decide (0 ≤ x8_1) = true := dTr c7
     clear c7
     by_cases c8 : (rdOf ByteArray.empty t185 x8_1).toList = ([39] : List UInt8)
     ·rw [if_pos c8] at H
      have c8b0 : ((rdOf ByteArray.empty t185 x8_1).toList == ([39] : List UInt8)) = true := beT c8
      have c8b1 : ((rdOf ByteArray.empty t185 x8_1).toList != ([39] : List UInt8)) = false := bnF c8
      clear c8
      by_cases c9 : (wrap64 (x8_1 + 1)) < (t185.length : Int)
      ·rw [if_pos c9] at H
       have c9b0 : decide ((wrap64 (x8_1 + 1)) < (t185.length : Int)) = true := dTr c9
       clear c9
       obtain ⟨ji10, hji10⟩ : ∃ j_ : Int, (wrap64 (x8_1 + 1)) = j_ := ⟨_, rfl⟩
       replace H : (if 0 ≤ (ji10) then (if (rdOf ByteArray.empty t185 (ji10)).toList = ([39] : List UInt8) then ((quipuref13_with.f x6_1 (⟨#[39]⟩ : ByteArray)).bind fun t194 => (quipuref13_Parse.l0 k1 t185 t186 t194 x7_1 (wrap64 ((ji10) + 1)))) else (quipuref13_Parse.l0 k1 t185 t186 x6_1 (!x7_1) ji10)) else (none)) = some (r1, r2) := by first | (rw [hji10] at H; exact H) | (simp only [hji10] at H ⊢; exact H)
       (try rw [hji10] at c9b0)
       have hji10w : (IntKind.i64.wrap (x8_1 + 1)) = ji10 := (i64_w _).trans hji10
       by_cases c11 : 0 ≤ (ji10)
       ·rw [if_pos c11] at H
        have c11b0 : decide (0 ≤ (ji10)) = true := dTr c11
        clear c11
        by_cases c12 : (rdOf ByteArray.empty t185 (ji10)).toList = ([39] : List UInt8)
        ·rw [if_pos c12] at H
         have c12b0 : ((rdOf ByteArray.empty t185 (ji10)).toList == ([39] : List UInt8)) = true := beT c12
         have c12b1 : ((rdOf ByteArray.empty t185 (ji10)).toList != ([39] : List UInt8)) = false := bnF c12
         clear c12
         replace H := Option.bind_eq_some_iff.mp H
         obtain ⟨t194, A130, H⟩ := H
         replace H : (quipuref13_Parse.l0 k1 t185 t186 t194 x7_1 (wrap64 ((ji10) + 1))) = some (r1, r2) := H
         have A13 := aMk A130
         clear A130
         have H' := aMk H
         clear H
         obtain ⟨Ao14, co14, eo14⟩ := Kd.R_slice HO_4.out
         subst eo14
         have p192 : 0 ≤ (x8_1 : Int) := of_decide_eq_true (aP75)
         have q192 : x8_1 < (t185.length : Int) := of_decide_eq_true (aP75)
         obtain ⟨ad192, e192, hx192_0⟩ := Kd.at_string (Kd.R_reads' HO_4.out).2.2 x8_1 p192 q192
         cases e192
         replace p192 := eq_true p192
         replace q192 := eq_true q192
         have p193 : 0 ≤ ((ji10) : Int) := of_decide_eq_true (aP75)
         have q193 : (ji10) < (t185.length : Int) := of_decide_eq_true (aP75)
         obtain ⟨ad193, e193, hx193_0⟩ := Kd.at_string (Kd.R_reads' HO_4.out).2.2 (ji10) p193 q193
         obtain rfl : ad192 = ad193 := (by injection e193)
         replace p193 := eq_true p193
         replace q193 := eq_true q193
         obtain ⟨Ao15, co15, eo15⟩ := Kd.R_slice HO_6.out
         subst eo15
         go_wp2_with (first | ((with_reducible refine gate_callee (f := 70) rfl ?_); refine goesL_ (some 43) rfl rfl Try.func70 (by kernel_rfl) rfl #[.slice Ao15 x6_1.length co15, .string (⟨#[39]⟩ : ByteArray)] rfl (aP76) ?_; (with_reducible refine (quipuref13_with.calls (fun k_ => some k_ = (.slice Ao15 x6_1.length co15 : Value).ownBlock) (.slice Ao15 x6_1.length co15) x6_1 (⟨#[39]⟩ : ByteArray) t194 w _ ?side1 ?side2 A13.out).mono ?_); (case side1 => repeat (first | (with_reducible first | exact HB.out | apply below_alloc | apply pw_below_drewN | apply below_drew1) | exact HB.out)); (case side2 => exact Kd.R_tight rfl HO_6.out); rintro e w16 ⟨v195, rfl, ho0, hb, hkp⟩; refine ⟨_, rfl, ?_⟩; have n0_ := aMk (Kd.R_mono (ok' := fun k_ => True) (Kd.R_keptB ((Kd.R_apart' HO_4.out (Kd.R_typed HO_6.out) (by decide))) hkp (fun k_ hk_ hs_ => (hk_.2) hs_)) (fun k_ hk_ => trivial)); have n1_ := aMk (Kd.R_mono (ok' := fun k_ => True) ho0 (fun k_ hk_ => trivial)); have n2_ := aMk (hb); clear HO_4; clear HB; clear HO_6; have HO_4 := n0_; have HO196 := n1_; have HB := n2_; clear n0_ n1_ n2_; (try clear hb); (try clear hkp); (try clear ho0)))
         go_roundg k1
         case measure => have := HK1.out; omega
         case rel => exact ⟨(t194), (x7_1), (wrap64 ((ji10) + 1)), (aP77), (by first | rfl | (simp; done) | (simp only [← hji10] <;> (first | rfl | simp)) | (simp [*]; done)), H', ⟨by have := HK1.out; omega⟩, ⟨aP102⟩, ⟨by (with_reducible repeat (first | apply Kd.R_alloc | apply Kd.R_drewN | apply Kd.R_drew)); exact HO196.out⟩, ⟨aP80⟩⟩
        ·rw [if_neg c12] at H
         have c12b0 : ((rdOf ByteArray.empty t185 (ji10)).toList == ([39] : List UInt8)) = false := beF c12
         have c12b1 : ((rdOf ByteArray.empty t185 (ji10)).toList != ([39] : List UInt8)) = true := bnT c12
         have H' := aMk H
         clear H
         obtain ⟨Ao17, co17, eo17⟩ := Kd.R_slice HO_4.out
         subst eo17
         have p192 : 0 ≤ (x8_1 : Int) := of_decide_eq_true (aP75)
         have q192 : x8_1 < (t185.length : Int) := of_decide_eq_true (aP75)
         obtain ⟨ad192, e192, hx192_0⟩ := Kd.at_string (Kd.R_reads' HO_4.out).2.2 x8_1 p192 q192
         cases e192
         replace p192 := eq_true p192
         replace q192 := eq_true q192
         have p193 : 0 ≤ ((ji10) : Int) := of_decide_eq_true (aP75)
         have q193 : (ji10) < (t185.length : Int) := of_decide_eq_true (aP75)
         obtain ⟨ad193, e193, hx193_0⟩ := Kd.at_string (Kd.R_reads' HO_4.out).2.2 (ji10) p193 q193
         obtain rfl : ad192 = ad193 := (by injection e193)
         replace p193 := eq_true p193
         replace q193 := eq_true q193
         go_wp2
         go_roundg k1
         case measure => have := HK1.out; omega
         case rel => exact ⟨(x6_1), (!x7_1), (ji10), (aP77), (by first | rfl | (simp; done) | (simp only [← hji10] <;> (first | rfl | simp)) | (simp [*]; done)), H', ⟨by have := HK1.out; omega⟩, ⟨aP102⟩, ⟨aP118⟩, ⟨aP80⟩⟩
       ·rw [if_neg c11] at H
        exact absurd H (by simp)
      ·rw [if_neg c9] at H
       have c9b0 : decide ((wrap64 (x8_1 + 1)) < (t185.length : Int)) = false := dFa c9
       clear c9
       have H' := aMk H
       clear H
       obtain ⟨Ao18, co18, eo18⟩ := Kd.R_slice HO_4.out
       subst eo18
       have p192 : 0 ≤ (x8_1 : Int) := of_decide_eq_true (aP75)
       have q192 : x8_1 < (t185.length : Int) := of_decide_eq_true (aP75)
       obtain ⟨ad192, e192, hx192_0⟩ := Kd.at_string (Kd.R_reads' HO_4.out).2.2 x8_1 p192 q192
       cases e192
       replace p192 := eq_true p192
       replace q192 := eq_true q192
       go_wp2
       go_roundg k1
       case measure => have := HK1.out; omega
       case rel => exact ⟨(x6_1), (!x7_1), (wrap64 (x8_1 + 1)), (aP77), (aP77), H', ⟨by have := HK1.out; omega⟩, ⟨aP102⟩, ⟨aP118⟩, ⟨aP80⟩⟩
     ·rw [if_neg c8] at H
      have c8b0 : ((rdOf ByteArray.empty t185 x8_1).toList == ([39] : List UInt8)) = false := beF c8
      have c8b1 : ((rdOf ByteArray.empty t185 x8_1).toList != ([39] : List UInt8)) = true := bnT c8
      have HC19 := aMk H
      clear H
      obtain ⟨Ao20, co20, eo20⟩ := Kd.R_slice HO_4.out
      subst eo20
      have p192 : 0 ≤ (x8_1 : Int) := of_decide_eq_true (aP75)
      have q192 : x8_1 < (t185.length : Int) := of_decide_eq_true (aP75)
      obtain ⟨ad192, e192, hx192_0⟩ := Kd.at_string (Kd.R_reads' HO_4.out).2.2 x8_1 p192 q192
      cases e192
      replace p192 := eq_true p192
      replace q192 := eq_true q192
      go_upto_region 12 with (fail)
      go_cut [64] (fun v64 wc => ∃ (kq : Nat) (x64_18 : Bool), v64 = .bool x64_18 ∧ Aside0 (quipuref13_Parse.j1 kq t185 t186 x6_1 x7_1 x8_1 x64_18 = some (r1, r2)) ∧ Aside0 (kq ≤ k1) ∧ Aside0 (Kd.R Kd.string 9 wc w.heap.size (fun _ => True) (.slice (some ad192) t185.length co20) t185) ∧ Aside0 (Kd.R k53 53 wc w.heap.size (fun _ => True) u6 x6_1) ∧ Aside0 (Below w.heap.size w wc))
      case first =>
       have H := HC19.out
       clear HC19
       by_cases c21 : x7_1 = true
       ·subst c21
        have H1 : (quipuref13_Parse.j1 k1 t185 t186 x6_1 true x8_1 true) = some (r1, r2) := aP79
        clear H
        have H := H1
        clear H1
        have H' := aMk H
        clear H
        go_wp2
        go_meet
        case rel => exact ⟨_, (true), (aP77), H', ⟨aP119⟩, ⟨aP102⟩, ⟨aP118⟩, ⟨aP80⟩⟩
       ·replace c21 := Bool.eq_false_iff.mpr c21
        subst c21
        have H1 : ((quipuref13_Sign.f (rdOf ByteArray.empty t185 x8_1)).bind fun t198 => (if t198 = 0 then ((quipuref13_Letter.f (rdOf ByteArray.empty t185 x8_1)).bind fun t200 => (quipuref13_Parse.j1 k1 t185 t186 x6_1 false x8_1 (!t200))) else (quipuref13_Parse.j1 k1 t185 t186 x6_1 false x8_1 false))) = some (r1, r2) := aP74
        clear H
        have H := H1
        clear H1
        replace H := Option.bind_eq_some_iff.mp H
        obtain ⟨t198, A220, H⟩ := H
        replace H : (if t198 = 0 then ((quipuref13_Letter.f (rdOf ByteArray.empty t185 x8_1)).bind fun t200 => (quipuref13_Parse.j1 k1 t185 t186 x6_1 false x8_1 (!t200))) else (quipuref13_Parse.j1 k1 t185 t186 x6_1 false x8_1 false)) = some (r1, r2) := H
        have A22 := aMk A220
        clear A220
        by_cases c23 : t198 = 0
        ·rw [if_pos c23] at H
         have c23b0 : (t198 == 0) = true := beT c23
         have c23b1 : (t198 != 0) = false := bnF c23
         clear c23
         (first | rw [c23b0] | (simp only [i64_w, i32_w]; rw [c23b0]) | skip)
         replace H := Option.bind_eq_some_iff.mp H
         obtain ⟨t200, A240, H⟩ := H
         replace H : (quipuref13_Parse.j1 k1 t185 t186 x6_1 false x8_1 (!t200)) = some (r1, r2) := H
         have A24 := aMk A240
         clear A240
         have H' := aMk H
         clear H
         have p197 : 0 ≤ (x8_1 : Int) := of_decide_eq_true (aP75)
         have q197 : x8_1 < (t185.length : Int) := of_decide_eq_true (aP75)
         obtain ⟨ad197, e197, hx197_0⟩ := Kd.at_string (Kd.R_reads' HO_4.out).2.2 x8_1 p197 q197
         obtain rfl : ad192 = ad197 := (by injection e197)
         replace p197 := eq_true p197
         replace q197 := eq_true q197
         go_wp2_with (first | (go_at_call 71; (with_reducible refine (quipuref13_Sign.calls (rdOf ByteArray.empty t185 x8_1) t198 _ A22.out).mono ?_); rintro e w' ⟨rfl, ⟨nd, rfl⟩⟩; have p199 : 0 ≤ (x8_1 : Int) := of_decide_eq_true (aP75); have q199 : x8_1 < (t185.length : Int) := of_decide_eq_true (aP75); obtain ⟨ad199, e199, hx199_0⟩ := Kd.at_string (Kd.R_reads' HO_4.out).2.2 x8_1 p199 q199; obtain rfl : ad192 = ad199 := (by injection e199); replace p199 := eq_true p199; replace q199 := eq_true q199) | (go_at_call 72; (with_reducible refine (quipuref13_Letter.calls (rdOf ByteArray.empty t185 x8_1) t200 _ A24.out).mono ?_); rintro e w' ⟨rfl, ⟨nd, rfl⟩⟩))
         go_meet
         case rel => exact ⟨_, (!t200), (aP77), H', ⟨aP119⟩, ⟨aP102⟩, ⟨aP118⟩, ⟨aP80⟩⟩
        ·rw [if_neg c23] at H
         have c23b0 : (t198 == 0) = false := beF c23
         have c23b1 : (t198 != 0) = true := bnT c23
         (first | rw [c23b0] | (simp only [i64_w, i32_w]; rw [c23b0]) | skip)
         have H' := aMk H
         clear H
         have p197 : 0 ≤ (x8_1 : Int) := of_decide_eq_true (aP75)
         have q197 : x8_1 < (t185.length : Int) := of_decide_eq_true (aP75)
         obtain ⟨ad197, e197, hx197_0⟩ := Kd.at_string (Kd.R_reads' HO_4.out).2.2 x8_1 p197 q197
         obtain rfl : ad192 = ad197 := (by injection e197)
         replace p197 := eq_true p197
         replace q197 := eq_true q197
         go_wp2_with (first | (go_at_call 71; (with_reducible refine (quipuref13_Sign.calls (rdOf ByteArray.empty t185 x8_1) t198 _ A22.out).mono ?_); rintro e w' ⟨rfl, ⟨nd, rfl⟩⟩))
         go_meet
         case rel => exact ⟨_, (false), (aP77), H', ⟨aP119⟩, ⟨aP102⟩, ⟨aP118⟩, ⟨aP80⟩⟩
      case rest =>
       clear HC19
       try clear c1
       try clear p1
       try clear q1
       try clear hx1
       try clear c2
       try clear p2
       try clear c4
       try clear c6
       try clear c6b0
       try clear p6
       try clear c7
       try clear c7b0
       try clear c8
       try clear c8b0
       try clear c8b1
       try clear c9
       try clear c9b0
       try clear c11
       try clear c11b0
       try clear c12
       try clear c12b0
       try clear c12b1
       try clear p19
       try clear q19
       try clear hx19
       try clear c21
       try clear c23
       try clear c23b0
       try clear c23b1
       try clear hx192_0
       try clear hx193_0
       try clear hx197_0
       try clear hx199_0
       try clear p192
       try clear p193
       try clear p197
       try clear p199
       try clear p2
       try clear q192
       try clear q193
       try clear q197
       try clear q199
       obtain ⟨kq, x64_18, rfl, HA, HJ18, HO_4, HO_6, HB⟩ := hcut
       cases kq with
       | zero => exact absurd HA.out (by simp [quipuref13_Parse.j1])
       | succ kj18 =>
        have H := HA.out
        clear HA
        simp only [quipuref13_Parse.j1] at H
        by_cases c25 : x64_18 = true
        ·subst c25
         have H1 : (if 0 ≤ x8_1 then (if x8_1 < (t185.length : Int) then ((quipuref13_with.f x6_1 (rdOf ByteArray.empty t185 x8_1)).bind fun t202 => (quipuref13_Parse.l0 kj18 t185 t186 t202 x7_1 (wrap64 (x8_1 + 1)))) else (none)) else (none)) = some (r1, r2) := aP79
         clear H
         have H := H1
         clear H1
         by_cases c26 : 0 ≤ x8_1
         ·rw [if_pos c26] at H
          have c26b0 : decide (0 ≤ x8_1) = true := dTr c26
          clear c26
          by_cases c27 : x8_1 < (t185.length : Int)
          ·rw [if_pos c27] at H
           have c27b0 : decide (x8_1 < (t185.length : Int)) = true := dTr c27
           clear c27
           replace H := Option.bind_eq_some_iff.mp H
           obtain ⟨t202, A280, H⟩ := H
           replace H : (quipuref13_Parse.l0 kj18 t185 t186 t202 x7_1 (wrap64 (x8_1 + 1))) = some (r1, r2) := H
           have A28 := aMk A280
           clear A280
           have H' := aMk H
           clear H
           have p201 : 0 ≤ (x8_1 : Int) := of_decide_eq_true (aP75)
           have q201 : x8_1 < (t185.length : Int) := of_decide_eq_true (aP75)
           obtain ⟨ad201, e201, hx201_0⟩ := Kd.at_string (Kd.R_reads' HO_4.out).2.2 x8_1 p201 q201
           obtain rfl : ad192 = ad201 := (by injection e201)
           replace p201 := eq_true p201
           replace q201 := eq_true q201
           obtain ⟨Ao29, co29, eo29⟩ := Kd.R_slice HO_6.out
           subst eo29
           go_wp2_with (first | ((with_reducible refine gate_callee (f := 70) rfl ?_); refine goesL_ (some 70) rfl rfl Try.func70 (by kernel_rfl) rfl #[.slice Ao29 x6_1.length co29, .string (rdOf ByteArray.empty t185 x8_1)] rfl (aP76) ?_; (with_reducible refine (quipuref13_with.calls (fun k_ => some k_ = (.slice Ao29 x6_1.length co29 : Value).ownBlock) (.slice Ao29 x6_1.length co29) x6_1 (rdOf ByteArray.empty t185 x8_1) t202 w _ ?side1 ?side2 A28.out).mono ?_); (case side1 => repeat (first | (with_reducible first | exact HB.out | apply below_alloc | apply pw_below_drewN | apply below_drew1) | exact HB.out)); (case side2 => exact Kd.R_tight rfl HO_6.out); rintro e w30 ⟨v203, rfl, ho0, hb, hkp⟩; refine ⟨_, rfl, ?_⟩; have n0_ := aMk (Kd.R_mono (ok' := fun k_ => True) (Kd.R_keptB ((Kd.R_apart' HO_4.out (Kd.R_typed HO_6.out) (by decide))) hkp (fun k_ hk_ hs_ => (hk_.2) hs_)) (fun k_ hk_ => trivial)); have n1_ := aMk (Kd.R_mono (ok' := fun k_ => True) ho0 (fun k_ hk_ => trivial)); have n2_ := aMk (hb); clear HO_4; clear HB; clear HO_6; have HO_4 := n0_; have HO204 := n1_; have HB := n2_; clear n0_ n1_ n2_; (try clear hb); (try clear hkp); (try clear ho0)))
           go_roundg kj18
           case measure => have := HK1.out; have := HJ18.out; omega
           case rel => exact ⟨(t202), (x7_1), (wrap64 (x8_1 + 1)), (aP77), (aP77), H', ⟨by have := HK1.out; have := HJ18.out; omega⟩, ⟨aP102⟩, ⟨by (with_reducible repeat (first | apply Kd.R_alloc | apply Kd.R_drewN | apply Kd.R_drew)); exact HO204.out⟩, ⟨aP80⟩⟩
          ·rw [if_neg c27] at H
           exact absurd H (by simp)
         ·rw [if_neg c26] at H
          exact absurd H (by simp)
        ·replace c25 := Bool.eq_false_iff.mpr c25
         subst c25
         have H1 : (if 0 ≤ x8_1 then (if x8_1 < (t185.length : Int) then ((quipuref13_Letter.f (rdOf ByteArray.empty t185 x8_1)).bind fun t206 => (if t206 = true then (some (([] : List (S53)), 131)) else ((quipuref13_Sign.f (rdOf ByteArray.empty t185 x8_1)).bind fun t208 => ((quipuref13_signed.f kj18 x6_1 t208).bind fun bt209 => (if bt209.2 = true then (quipuref13_Parse.l0 kj18 t185 t186 bt209.1 x7_1 (wrap64 (x8_1 + 1))) else (some (([] : List (S53)), 131))))))) else (none)) else (none)) = some (r1, r2) := aP74
         clear H
         have H := H1
         clear H1
         by_cases c31 : 0 ≤ x8_1
         ·rw [if_pos c31] at H
          have c31b0 : decide (0 ≤ x8_1) = true := dTr c31
          clear c31
          by_cases c32 : x8_1 < (t185.length : Int)
          ·rw [if_pos c32] at H
           have c32b0 : decide (x8_1 < (t185.length : Int)) = true := dTr c32
           clear c32
           replace H := Option.bind_eq_some_iff.mp H
           obtain ⟨t206, A330, H⟩ := H
           replace H : (if t206 = true then (some (([] : List (S53)), 131)) else ((quipuref13_Sign.f (rdOf ByteArray.empty t185 x8_1)).bind fun t208 => ((quipuref13_signed.f kj18 x6_1 t208).bind fun bt209 => (if bt209.2 = true then (quipuref13_Parse.l0 kj18 t185 t186 bt209.1 x7_1 (wrap64 (x8_1 + 1))) else (some (([] : List (S53)), 131)))))) = some (r1, r2) := H
           have A33 := aMk A330
           clear A330
           by_cases c34 : t206 = true
           ·subst c34
            have H1 : (some (([] : List (S53)), 131)) = some (r1, r2) := aP79
            clear H
            have H := H1
            clear H1
            simp only [Option.some.injEq, Prod.mk.injEq] at H
            obtain ⟨rfl, rfl⟩ := H
            have p205 : 0 ≤ (x8_1 : Int) := of_decide_eq_true (aP75)
            have q205 : x8_1 < (t185.length : Int) := of_decide_eq_true (aP75)
            obtain ⟨ad205, e205, hx205_0⟩ := Kd.at_string (Kd.R_reads' HO_4.out).2.2 x8_1 p205 q205
            obtain rfl : ad192 = ad205 := (by injection e205)
            replace p205 := eq_true p205
            replace q205 := eq_true q205
            go_wp2_with (first | ((with_reducible refine gate_callee (f := 72) rfl ?_); refine goesL_ (some 75) rfl rfl Try.func72 (by kernel_rfl) rfl #[.string (rdOf ByteArray.empty t185 x8_1)] rfl (aP76) ?_; (with_reducible refine (quipuref13_Letter.calls (rdOf ByteArray.empty t185 x8_1) true _ A33.out).mono ?_); rintro e w' ⟨rfl, ⟨nd, rfl⟩⟩; refine ⟨_, rfl, ?_⟩))
            exact aP50
           ·replace c34 := Bool.eq_false_iff.mpr c34
            subst c34
            have H1 : ((quipuref13_Sign.f (rdOf ByteArray.empty t185 x8_1)).bind fun t208 => ((quipuref13_signed.f kj18 x6_1 t208).bind fun bt209 => (if bt209.2 = true then (quipuref13_Parse.l0 kj18 t185 t186 bt209.1 x7_1 (wrap64 (x8_1 + 1))) else (some (([] : List (S53)), 131))))) = some (r1, r2) := aP74
            clear H
            have H := H1
            clear H1
            replace H := Option.bind_eq_some_iff.mp H
            obtain ⟨t208, A350, H⟩ := H
            replace H : ((quipuref13_signed.f kj18 x6_1 t208).bind fun bt209 => (if bt209.2 = true then (quipuref13_Parse.l0 kj18 t185 t186 bt209.1 x7_1 (wrap64 (x8_1 + 1))) else (some (([] : List (S53)), 131)))) = some (r1, r2) := H
            have A35 := aMk A350
            clear A350
            replace H := Option.bind_eq_some_iff.mp H
            obtain ⟨⟨t209, t212⟩, A360, H⟩ := H
            replace H : (if t212 = true then (quipuref13_Parse.l0 kj18 t185 t186 t209 x7_1 (wrap64 (x8_1 + 1))) else (some (([] : List (S53)), 131))) = some (r1, r2) := H
            have A36 := aMk A360
            clear A360
            by_cases c37 : t212 = true
            ·subst c37
             have H1 : (quipuref13_Parse.l0 kj18 t185 t186 t209 x7_1 (wrap64 (x8_1 + 1))) = some (r1, r2) := aP79
             clear H
             have H := H1
             clear H1
             have H' := aMk H
             clear H
             have p205 : 0 ≤ (x8_1 : Int) := of_decide_eq_true (aP75)
             have q205 : x8_1 < (t185.length : Int) := of_decide_eq_true (aP75)
             obtain ⟨ad205, e205, hx205_0⟩ := Kd.at_string (Kd.R_reads' HO_4.out).2.2 x8_1 p205 q205
             obtain rfl : ad192 = ad205 := (by injection e205)
             replace p205 := eq_true p205
             replace q205 := eq_true q205
             go_wp2_with (first | ((with_reducible refine gate_callee (f := 72) rfl ?_); refine goesL_ (some 75) rfl rfl Try.func72 (by kernel_rfl) rfl #[.string (rdOf ByteArray.empty t185 x8_1)] rfl (aP76) ?_; (with_reducible refine (quipuref13_Letter.calls (rdOf ByteArray.empty t185 x8_1) false _ A33.out).mono ?_); rintro e w' ⟨rfl, ⟨nd, rfl⟩⟩; refine ⟨_, rfl, ?_⟩; have p207 : 0 ≤ (x8_1 : Int) := of_decide_eq_true (aP75); have q207 : x8_1 < (t185.length : Int) := of_decide_eq_true (aP75); obtain ⟨ad207, e207, hx207_0⟩ := Kd.at_string (Kd.R_reads' HO_4.out).2.2 x8_1 p207 q207; obtain rfl : ad192 = ad207 := (by injection e207); replace p207 := eq_true p207; replace q207 := eq_true q207) | ((with_reducible refine gate_callee (f := 71) rfl ?_); refine goesL_ (some 82) rfl rfl Try.func71 (by kernel_rfl) rfl #[.string (rdOf ByteArray.empty t185 x8_1)] rfl (aP76) ?_; (with_reducible refine (quipuref13_Sign.calls (rdOf ByteArray.empty t185 x8_1) t208 _ A35.out).mono ?_); rintro e w' ⟨rfl, ⟨nd, rfl⟩⟩; refine ⟨_, rfl, ?_⟩; obtain ⟨Ao38, co38, eo38⟩ := Kd.R_slice HO_6.out; subst eo38) | ((with_reducible refine gate_callee (f := 73) rfl ?_); refine goesL_ (some 83) rfl rfl Try.func73 (by kernel_rfl) rfl #[.slice Ao38 x6_1.length co38, .int .i64 t208] rfl (aP76) ?_; (with_reducible refine (quipuref13_signed.calls kj18 (fun k_ => some k_ = (.slice Ao38 x6_1.length co38 : Value).ownBlock) (.slice Ao38 x6_1.length co38) x6_1 t208 t209 true w _ ?side1 ?side2 A36.out).mono ?_); (case side1 => repeat (first | (with_reducible first | exact HB.out | apply below_alloc | apply pw_below_drewN | apply below_drew1) | exact HB.out)); (case side2 => exact Kd.R_tight rfl HO_6.out); rintro e w39 ⟨v210, rfl, ho0, hb, hkp⟩; refine ⟨_, rfl, ?_⟩; have n0_ := aMk (Kd.R_mono (ok' := fun k_ => True) (Kd.R_keptB ((Kd.R_apart' HO_4.out (Kd.R_typed HO_6.out) (by decide))) hkp (fun k_ hk_ hs_ => (hk_.2) hs_)) (fun k_ hk_ => trivial)); have n1_ := aMk (Kd.R_mono (ok' := fun k_ => True) ho0 (fun k_ hk_ => trivial)); have n2_ := aMk (hb); clear HO_4; clear HB; clear HO_6; have HO_4 := n0_; have HO211 := n1_; have HB := n2_; clear n0_ n1_ n2_; (try clear hb); (try clear hkp); (try clear ho0)))
             go_roundg kj18
             case measure => have := HK1.out; have := HJ18.out; omega
             case rel => exact ⟨(t209), (x7_1), (wrap64 (x8_1 + 1)), (aP77), (aP77), H', ⟨by have := HK1.out; have := HJ18.out; omega⟩, ⟨aP102⟩, ⟨by (with_reducible repeat (first | apply Kd.R_alloc | apply Kd.R_drewN | apply Kd.R_drew)); exact HO211.out⟩, ⟨aP80⟩⟩
            ·replace c37 := Bool.eq_false_iff.mpr c37
             subst c37
             have H1 : (some (([] : List (S53)), 131)) = some (r1, r2) := aP74
             clear H
             have H := H1
             clear H1
             simp only [Option.some.injEq, Prod.mk.injEq] at H
             obtain ⟨rfl, rfl⟩ := H
             have p205 : 0 ≤ (x8_1 : Int) := of_decide_eq_true (aP75)
             have q205 : x8_1 < (t185.length : Int) := of_decide_eq_true (aP75)
             obtain ⟨ad205, e205, hx205_0⟩ := Kd.at_string (Kd.R_reads' HO_4.out).2.2 x8_1 p205 q205
             obtain rfl : ad192 = ad205 := (by injection e205)
             replace p205 := eq_true p205
             replace q205 := eq_true q205
             go_wp2_with (first | ((with_reducible refine gate_callee (f := 72) rfl ?_); refine goesL_ (some 75) rfl rfl Try.func72 (by kernel_rfl) rfl #[.string (rdOf ByteArray.empty t185 x8_1)] rfl (aP76) ?_; (with_reducible refine (quipuref13_Letter.calls (rdOf ByteArray.empty t185 x8_1) false _ A33.out).mono ?_); rintro e w' ⟨rfl, ⟨nd, rfl⟩⟩; refine ⟨_, rfl, ?_⟩; have p207 : 0 ≤ (x8_1 : Int) := of_decide_eq_true (aP75); have q207 : x8_1 < (t185.length : Int) := of_decide_eq_true (aP75); obtain ⟨ad207, e207, hx207_0⟩ := Kd.at_string (Kd.R_reads' HO_4.out).2.2 x8_1 p207 q207; obtain rfl : ad192 = ad207 := (by injection e207); replace p207 := eq_true p207; replace q207 := eq_true q207) | ((with_reducible refine gate_callee (f := 71) rfl ?_); refine goesL_ (some 82) rfl rfl Try.func71 (by kernel_rfl) rfl #[.string (rdOf ByteArray.empty t185 x8_1)] rfl (aP76) ?_; (with_reducible refine (quipuref13_Sign.calls (rdOf ByteArray.empty t185 x8_1) t208 _ A35.out).mono ?_); rintro e w' ⟨rfl, ⟨nd, rfl⟩⟩; refine ⟨_, rfl, ?_⟩; obtain ⟨Ao40, co40, eo40⟩ := Kd.R_slice HO_6.out; subst eo40) | ((with_reducible refine gate_callee (f := 73) rfl ?_); refine goesL_ (some 83) rfl rfl Try.func73 (by kernel_rfl) rfl #[.slice Ao40 x6_1.length co40, .int .i64 t208] rfl (aP76) ?_; (with_reducible refine (quipuref13_signed.calls kj18 (fun k_ => some k_ = (.slice Ao40 x6_1.length co40 : Value).ownBlock) (.slice Ao40 x6_1.length co40) x6_1 t208 t209 false w _ ?side1 ?side2 A36.out).mono ?_); (case side1 => repeat (first | (with_reducible first | exact HB.out | apply below_alloc | apply pw_below_drewN | apply below_drew1) | exact HB.out)); (case side2 => exact Kd.R_tight rfl HO_6.out); rintro e w41 ⟨v210, rfl, ho0, hb, hkp⟩; refine ⟨_, rfl, ?_⟩; have n0_ := aMk (Kd.R_mono (ok' := fun k_ => True) (Kd.R_keptB ((Kd.R_apart' HO_4.out (Kd.R_typed HO_6.out) (by decide))) hkp (fun k_ hk_ hs_ => (hk_.2) hs_)) (fun k_ hk_ => trivial)); have n1_ := aMk (Kd.R_mono (ok' := fun k_ => True) ho0 (fun k_ hk_ => trivial)); have n2_ := aMk (hb); clear HO_4; clear HB; clear HO_6; have HO_4 := n0_; have HO211 := n1_; have HB := n2_; clear n0_ n1_ n2_; (try clear hb); (try clear hkp); (try clear ho0)))
             exact aP50
          ·rw [if_neg c32] at H
           exact absurd H (by simp)
         ·rw [if_neg c31] at H
          exact absurd H (by simp)
    ·rw [if_neg c7] at H
     exact absurd H (by simp)
   ·rw [if_neg c6] at H
    have c6b0 : decide (x8_1 < (t185.length : Int)) = false := dFa c6
    clear c6
    by_cases c42 : t186 = true
    ·subst c42
     have H1 : (if x7_1 = true then (some (([] : List (S53)), 130)) else ((quipuref13_Check.f k1 x6_1).bind fun t213 => (if t213 = 0 then (some (x6_1, 0)) else (some (([] : List (S53)), t213))))) = some (r1, r2) := aP79
     clear H
     have H := H1
     clear H1
     by_cases c43 : x7_1 = true
     ·subst c43
      have H1 : (some (([] : List (S53)), 130)) = some (r1, r2) := aP79
      clear H
      have H := H1
      clear H1
      simp only [Option.some.injEq, Prod.mk.injEq] at H
      obtain ⟨rfl, rfl⟩ := H
      obtain ⟨Ao44, co44, eo44⟩ := Kd.R_slice HO_4.out
      subst eo44
      exact aP49
     ·replace c43 := Bool.eq_false_iff.mpr c43
      subst c43
      have H1 : ((quipuref13_Check.f k1 x6_1).bind fun t213 => (if t213 = 0 then (some (x6_1, 0)) else (some (([] : List (S53)), t213)))) = some (r1, r2) := aP74
      clear H
      have H := H1
      clear H1
      replace H := Option.bind_eq_some_iff.mp H
      obtain ⟨t213, A450, H⟩ := H
      replace H : (if t213 = 0 then (some (x6_1, 0)) else (some (([] : List (S53)), t213))) = some (r1, r2) := H
      have A45 := aMk A450
      clear A450
      by_cases c46 : t213 = 0
      ·rw [if_pos c46] at H
       have c46b0 : (t213 == 0) = true := beT c46
       have c46b1 : (t213 != 0) = false := bnF c46
       clear c46
       simp only [Option.some.injEq, Prod.mk.injEq] at H
       obtain ⟨rfl, rfl⟩ := H
       obtain ⟨Ao47, co47, eo47⟩ := Kd.R_slice HO_4.out
       subst eo47
       obtain ⟨Ao48, co48, eo48⟩ := Kd.R_slice HO_6.out
       subst eo48
       go_wp2_with (first | ((with_reducible refine gate_callee (f := 55) rfl ?_); refine goesL_ (some 93) rfl rfl Try.func55 (by kernel_rfl) rfl #[.slice Ao48 x6_1.length co48] rfl (aP76) ?_; (with_reducible refine (quipuref13_Check.calls k1 _ _ x6_1 t213 _ ?side1 ?side2 A45.out).mono ?_); (case side1 => repeat (first | exact (Kd.R_reads' HO_6.out).2.2 | (with_reducible refine Kd.C_alloc ?_ _) | (with_reducible refine Kd.C_drewN ?_ _) | (with_reducible refine Kd.C_drew ?_))); (case side2 => exact (Kd.R_reads' HO_6.out).2.1); rintro e w49 ⟨rfl, hb⟩; refine ⟨_, rfl, ?_⟩; have n0_ := aMk (Kd.R_below (aP102) hb); have n1_ := aMk (Kd.R_below (aP118) hb); have n2_ := aMk (below_step (aP80) hb); clear HO_4; clear HO_6; clear HB; have HO_4 := n0_; have HO_6 := n1_; have HB := n2_; clear n0_ n1_ n2_; (try clear hb); (try clear hb2); (try clear hk); (try clear hi)))
       go_ret2
       exact ⟨_, aP91, aP118, aP80⟩
      ·rw [if_neg c46] at H
       have c46b0 : (t213 == 0) = false := beF c46
       have c46b1 : (t213 != 0) = true := bnT c46
       simp only [Option.some.injEq, Prod.mk.injEq] at H
       obtain ⟨rfl, rfl⟩ := H
       obtain ⟨Ao50, co50, eo50⟩ := Kd.R_slice HO_4.out
       subst eo50
       obtain ⟨Ao51, co51, eo51⟩ := Kd.R_slice HO_6.out
       subst eo51
       go_wp2_with (first | ((with_reducible refine gate_callee (f := 55) rfl ?_); refine goesL_ (some 93) rfl rfl Try.func55 (by kernel_rfl) rfl #[.slice Ao51 x6_1.length co51] rfl (aP76) ?_; (with_reducible refine (quipuref13_Check.calls k1 _ _ x6_1 t213 _ ?side1 ?side2 A45.out).mono ?_); (case side1 => repeat (first | exact (Kd.R_reads' HO_6.out).2.2 | (with_reducible refine Kd.C_alloc ?_ _) | (with_reducible refine Kd.C_drewN ?_ _) | (with_reducible refine Kd.C_drew ?_))); (case side2 => exact (Kd.R_reads' HO_6.out).2.1); rintro e w52 ⟨rfl, hb⟩; refine ⟨_, rfl, ?_⟩; have n0_ := aMk (Kd.R_below (aP102) hb); have n1_ := aMk (Kd.R_below (aP118) hb); have n2_ := aMk (below_step (aP80) hb); clear HO_4; clear HO_6; clear HB; have HO_4 := n0_; have HO_6 := n1_; have HB := n2_; clear n0_ n1_ n2_; (try clear hb); (try clear hb2); (try clear hk); (try clear hi)))
       exact aP50
    ·replace c42 := Bool.eq_false_iff.mpr c42
     subst c42
     have H1 : (some (([] : List (S53)), 131)) = some (r1, r2) := aP74
     clear H
     have H := H1
     clear H1
     simp only [Option.some.injEq, Prod.mk.injEq] at H
     obtain ⟨rfl, rfl⟩ := H
     obtain ⟨Ao53, co53, eo53⟩ := Kd.R_slice HO_4.out
     subst eo53
     exact aP49
def quipuref13_Same.l0 : Nat → List (S53) → List (S53) → Int → Option (Bool)
 | 0, _, _, _ => none
 | k + 1, x0, x1, x5 => if x5 < (x0.length : Int) then (if 0 ≤ x5 then (if x5 < (x1.length : Int) then (if (!(((rd_T53 x0 x5).f0) == ((rd_T53 x1 x5).f0)) || (!(((rd_T53 x0 x5).f1) == ((rd_T53 x1 x5).f1)) || (!((((rd_T53 x0 x5).f2).toList) == (((rd_T53 x1 x5).f2).toList))))) = true then (some false) else (quipuref13_Same.l0 k x0 x1 (wrap64 (x5 + 1)))) else (none)) else (none)) else (some true)
def quipuref13_Same.f (k : Nat) (l0 : List (S53)) (l1 : List (S53)) : Option (Bool) := if (l0.length : Int) = (l1.length : Int) then (quipuref13_Same.l0 k l0 l1 0) else (some false)
set_option maxHeartbeats 8000000 in
set_option maxRecDepth 100000 in
theorem quipuref13_Same.calls (k : Nat) (A0 : Option Addr) (c0 : Nat) (l0 : List (S53)) (A1 : Option Addr) (c1 : Nat) (l1 : List (S53)) (r : Bool) (w : World) (hr0 : Kd.C k53 w A0 l0.length l0) (hc0 : l0.length ≤ c0) (hr1 : Kd.C k53 w A1 l1.length l1) (hc1 : l1.length ≤ c1) (h : quipuref13_Same.f k l0 l1 = some r) :
  Calls Try.prog 29 #[.slice A0 l0.length c0, .slice A1 l1.length c1] w fun e w' => e = .returned (.bool r) ∧ Drawn0 w w' := by
 have hu53 := Try.underlying53
 have HR0 := aMk hr0
 have HC0 := aMk hc0
 clear hr0 hc0
 have HR1 := aMk hr1
 have HC1 := aMk hc1
 clear hr1 hc1
 have H : (if (l0.length : Int) = (l1.length : Int) then (quipuref13_Same.l0 k l0 l1 0) else (some false)) = some r := h
 clear h
 by_cases c3 : (l0.length : Int) = (l1.length : Int)
 ·rw [if_pos c3] at H
  have c3b0 : ((l0.length : Int) == (l1.length : Int)) = true := beT c3
  have c3b1 : ((l0.length : Int) != (l1.length : Int)) = false := bnF c3
  have c3b2 : (l0.length == l1.length) = true := by first | simpa using c3 | (simp at c3 ⊢; omega)
  clear c3
  have H' := aMk H
  clear H
  go_enter Try.func29, Try.ntmps29
  go_wp2
  repeat (go_quiet (fail); try go_wp2)
  go_loopg [5] k (fun kq v5 w' => ∃ (x5_1 : Int), v5 = .int .i64 x5_1 ∧ Aside0 (quipuref13_Same.l0 kq l0 l1 x5_1 = some r) ∧ Aside0 (kq ≤ k) ∧ Drawn0 w w')
  case atStart => exact ⟨(0), (aP77), H', ⟨Nat.le_refl _⟩, aP78⟩
  case round =>
   clear H'
   try clear c1
   try clear c2
   try clear p2
   try clear c3
   try clear c3b0
   try clear c3b1
   try clear c3b2
   obtain ⟨x5_1, rfl, HA, HK1, ⟨m1, rfl⟩⟩ := hrel
   cases gk with
   | zero => exact absurd HA.out (by simp [quipuref13_Same.l0])
   | succ k1 =>
    have H := HA.out
    clear HA
    simp only [quipuref13_Same.l0] at H
    by_cases c4 : x5_1 < (l0.length : Int)
    ·rw [if_pos c4] at H
     have c4b0 : decide (x5_1 < (l0.length : Int)) = true := dTr c4
     clear c4
     by_cases c5 : 0 ≤ x5_1
     ·rw [if_pos c5] at H
      have c5b0 : decide (0 ≤ x5_1) = true := dTr c5
      clear c5
      by_cases c6 : x5_1 < (l1.length : Int)
      ·rw [if_pos c6] at H
       have c6b0 : decide (x5_1 < (l1.length : Int)) = true := dTr c6
       clear c6
       by_cases c7 : (!(((rd_T53 l0 x5_1).f0) == ((rd_T53 l1 x5_1).f0)) || (!(((rd_T53 l0 x5_1).f1) == ((rd_T53 l1 x5_1).f1)) || (!((((rd_T53 l0 x5_1).f2).toList) == (((rd_T53 l1 x5_1).f2).toList))))) = true
       ·rw [if_pos c7] at H
        have c7b0 : (!(((rd_T53 l0 x5_1).f0) == ((rd_T53 l1 x5_1).f0)) || (!(((rd_T53 l0 x5_1).f1) == ((rd_T53 l1 x5_1).f1)) || (!((((rd_T53 l0 x5_1).f2).toList) == (((rd_T53 l1 x5_1).f2).toList))))) = true := c7
        clear c7
        obtain rfl := Option.some.inj H
        have p214 : 0 ≤ (x5_1 : Int) := of_decide_eq_true (aP75)
        have q214 : x5_1 < (l0.length : Int) := of_decide_eq_true (aP75)
        obtain ⟨ad214, e214, hx214_0, hx214_1, hx214_2⟩ := at_T53 HR0.out x5_1 p214 q214
        cases e214
        replace p214 := eq_true p214
        replace q214 := eq_true q214
        have p215 : 0 ≤ (x5_1 : Int) := of_decide_eq_true (aP75)
        have q215 : x5_1 < (l1.length : Int) := of_decide_eq_true (aP75)
        obtain ⟨ad215, e215, hx215_0, hx215_1, hx215_2⟩ := at_T53 HR1.out x5_1 p215 q215
        cases e215
        replace p215 := eq_true p215
        replace q215 := eq_true q215
        exact aP47
       ·rw [if_neg c7] at H
        have c7b0 : (!(((rd_T53 l0 x5_1).f0) == ((rd_T53 l1 x5_1).f0)) || (!(((rd_T53 l0 x5_1).f1) == ((rd_T53 l1 x5_1).f1)) || (!((((rd_T53 l0 x5_1).f2).toList) == (((rd_T53 l1 x5_1).f2).toList))))) = false := by simpa using c7
        clear c7
        have H' := aMk H
        clear H
        have p214 : 0 ≤ (x5_1 : Int) := of_decide_eq_true (aP75)
        have q214 : x5_1 < (l0.length : Int) := of_decide_eq_true (aP75)
        obtain ⟨ad214, e214, hx214_0, hx214_1, hx214_2⟩ := at_T53 HR0.out x5_1 p214 q214
        cases e214
        replace p214 := eq_true p214
        replace q214 := eq_true q214
        have p215 : 0 ≤ (x5_1 : Int) := of_decide_eq_true (aP75)
        have q215 : x5_1 < (l1.length : Int) := of_decide_eq_true (aP75)
        obtain ⟨ad215, e215, hx215_0, hx215_1, hx215_2⟩ := at_T53 HR1.out x5_1 p215 q215
        cases e215
        replace p215 := eq_true p215
        replace q215 := eq_true q215
        go_wp2
        repeat (go_quiet (fail); try go_wp2)
        go_roundg k1
        case measure => have := HK1.out; omega
        case rel => exact ⟨(wrap64 (x5_1 + 1)), (aP77), H', ⟨by have := HK1.out; omega⟩, aP78⟩
      ·rw [if_neg c6] at H
       exact absurd H (by simp)
     ·rw [if_neg c5] at H
      exact absurd H (by simp)
    ·rw [if_neg c4] at H
     have c4b0 : decide (x5_1 < (l0.length : Int)) = false := dFa c4
     exact aP48
 ·rw [if_neg c3] at H
  have c3b0 : ((l0.length : Int) == (l1.length : Int)) = false := beF c3
  have c3b1 : ((l0.length : Int) != (l1.length : Int)) = true := bnT c3
  have c3b2 : (l0.length == l1.length) = false := by first | simpa using c3 | (simp at c3 ⊢; omega)
  obtain rfl := Option.some.inj H
  go_enter Try.func29, Try.ntmps29
  exact aP47
def pattern_runes.l0 : Nat → Int → List (S53) → Int → Int → Option (Int)
 | 0, _, _, _, _ => none
 | k + 1, x3, x6, x7, x8 => if x8 < x7 then (if 0 ≤ x8 then (if x8 < (x6.length : Int) then (if ((rd_T53 x6 x8).f0) = 0 then ((cursor_Runes.f k ((rd_T53 x6 x8).f2)).bind fun t218 => (pattern_runes.l0 k (wrap64 (x3 + t218)) x6 x7 (wrap64 (x8 + 1)))) else (if ((rd_T53 x6 x8).f0) = 5 then (pattern_runes.l0 k (wrap64 (x3 + ((rd_T53 x6 x8).f1))) x6 x7 (wrap64 (x8 + 1))) else (pattern_runes.l0 k (wrap64 (x3 + 1)) x6 x7 (wrap64 (x8 + 1))))) else (none)) else (none)) else (some x3)
def pattern_runes.f (k : Nat) (l0 : List (S53)) : Option (Int) := pattern_runes.l0 k 0 l0 (l0.length : Int) 0
set_option maxHeartbeats 8000000 in
set_option maxRecDepth 100000 in
theorem pattern_runes.calls (k : Nat) (A0 : Option Addr) (c0 : Nat) (l0 : List (S53)) (r : Int) (w : World) (hr0 : Kd.C k53 w A0 l0.length l0) (hc0 : l0.length ≤ c0) (h : pattern_runes.f k l0 = some r) :
  Calls Try.prog 46 #[.slice A0 l0.length c0] w fun e w' => e = .returned (.int .i64 r) ∧ Below w.heap.size w w' := by
 have hu53 := Try.underlying53
 have HR0 := aMk hr0
 have HC0 := aMk hc0
 clear hr0 hc0
 have HB := aMk (Below.refl w.heap.size w)
 have H : (pattern_runes.l0 k 0 l0 (l0.length : Int) 0) = some r := h
 clear h
 have H' := aMk H
 clear H
 go_enter Try.func46, Try.ntmps46
 go_wp2
 go_loopg [3, 8] k (fun kq v3 v8 w' => ∃ (x3_1 : Int) (x8_1 : Int), v3 = .int .i64 x3_1 ∧ v8 = .int .i64 x8_1 ∧ Aside0 (pattern_runes.l0 kq x3_1 l0 (l0.length : Int) x8_1 = some r) ∧ Aside0 (kq ≤ k) ∧ Aside0 (Below w.heap.size w w'))
 case atStart => exact ⟨(0), (0), (aP77), (aP77), H', ⟨Nat.le_refl _⟩, ⟨aP80⟩⟩
 case round =>
  clear H'
  obtain ⟨x3_1, x8_1, rfl, rfl, HA, HK1, HB⟩ := hrel
  cases gk with
  | zero => exact absurd HA.out (by simp [pattern_runes.l0])
  | succ k1 =>
   have H := HA.out
   clear HA
   simp only [pattern_runes.l0] at H
   by_cases c2 : x8_1 < (l0.length : Int)
   ·rw [if_pos c2] at H
    have c2b0 : decide (x8_1 < (l0.length : Int)) = true := dTr c2
    clear c2
    by_cases c3 : 0 ≤ x8_1
    ·rw [if_pos c3] at H
     have c3b0 : decide (0 ≤ x8_1) = true := dTr c3
     clear c3
     by_cases c4 : x8_1 < (l0.length : Int)
     ·rw [if_pos c4] at H
      have c4b0 : decide (x8_1 < (l0.length : Int)) = true := dTr c4
      clear c4
      by_cases c5 : ((rd_T53 l0 x8_1).f0) = 0
      ·rw [if_pos c5] at H
       have c5b0 : (((rd_T53 l0 x8_1).f0) == 0) = true := beT c5
       have c5b1 : (((rd_T53 l0 x8_1).f0) != 0) = false := bnF c5
       clear c5
       replace H := Option.bind_eq_some_iff.mp H
       obtain ⟨t218, A60, H⟩ := H
       replace H : (pattern_runes.l0 k1 (wrap64 (x3_1 + t218)) l0 (l0.length : Int) (wrap64 (x8_1 + 1))) = some r := H
       have A6 := aMk A60
       clear A60
       have H' := aMk H
       clear H
       have p216 : 0 ≤ (x8_1 : Int) := of_decide_eq_true (aP75)
       have q216 : x8_1 < (l0.length : Int) := of_decide_eq_true (aP75)
       obtain ⟨ad216, e216, hx216_0, hx216_1, hx216_2⟩ := at_T53 HR0.out x8_1 p216 q216
       cases e216
       replace hx216_0 := (HB.out.cell (World.block_lt_of_cell? w _ hx216_0)).trans hx216_0
       replace hx216_1 := (HB.out.cell (World.block_lt_of_cell? w _ hx216_1)).trans hx216_1
       replace hx216_2 := (HB.out.cell (World.block_lt_of_cell? w _ hx216_2)).trans hx216_2
       replace p216 := eq_true p216
       replace q216 := eq_true q216
       go_wp2_with (first | ((with_reducible refine gate_dst (N := 5) rfl ?_); refine box_event ?hg (N := 5) ?hd (cs := #[.int .i64 0, .int .i64 0, .string (⟨#[]⟩ : ByteArray)]) (t := 53) ?hr ?_; (case hd => rfl); (case hg => rfl); (case hr => first | (go_simp; done) | (go_simp; rfl)); intro gb217 hg w7 hbox hb; have n0_ := aMk (below_step (aP80) hb); have n1_ := aMk (hbox); have n2_ := aMk ((aP81 : w.heap.size ≤ gb217)); have n3_ := aMk ((aP81 : w.heap.size ≤ gb217)); clear HB; have HB := n0_; have BK217 := n1_; have GW217 := n2_; have GE217 := n3_; clear n0_ n1_ n2_ n3_; clear hb hbox hg; have hcz8_0 : w7.cell? ⟨gb217, 0, none⟩ = some (.int .i64 0) := (blk_cell BK217.out 0).trans rfl; have hcz8_1 : w7.cell? ⟨gb217, 1, none⟩ = some (.int .i64 0) := (blk_cell BK217.out 1).trans rfl; have hcz8_2 : w7.cell? ⟨gb217, 2, none⟩ = some (.string (⟨#[]⟩ : ByteArray)) := (blk_cell BK217.out 2).trans rfl; have hfz8_0 := blk_frozen BK217.out 0; have hfz8_1 := blk_frozen BK217.out 1; have hfz8_2 := blk_frozen BK217.out 2) | ((with_reducible refine gate_callee (f := 35) rfl ?_); refine goesL_ (some 21) rfl rfl Try.func35 (by kernel_rfl) rfl #[.string ((rd_T53 l0 x8_1).f2)] rfl (aP76) ?_; (with_reducible refine (cursor_Runes.calls k1 ((rd_T53 l0 x8_1).f2) t218 _ A6.out).mono ?_); rintro e w' ⟨rfl, ⟨nd, rfl⟩⟩; refine ⟨_, rfl, ?_⟩))
       go_roundg k1
       case measure => have := HK1.out; omega
       case rel => exact ⟨(wrap64 (x3_1 + t218)), (wrap64 (x8_1 + 1)), (aP77), (aP77), H', ⟨by have := HK1.out; omega⟩, ⟨aP120⟩⟩
      ·rw [if_neg c5] at H
       have c5b0 : (((rd_T53 l0 x8_1).f0) == 0) = false := beF c5
       have c5b1 : (((rd_T53 l0 x8_1).f0) != 0) = true := bnT c5
       by_cases c9 : ((rd_T53 l0 x8_1).f0) = 5
       ·rw [if_pos c9] at H
        have c9b0 : (((rd_T53 l0 x8_1).f0) == 5) = true := beT c9
        have c9b1 : (((rd_T53 l0 x8_1).f0) != 5) = false := bnF c9
        clear c9
        have H' := aMk H
        clear H
        have p216 : 0 ≤ (x8_1 : Int) := of_decide_eq_true (aP75)
        have q216 : x8_1 < (l0.length : Int) := of_decide_eq_true (aP75)
        obtain ⟨ad216, e216, hx216_0, hx216_1, hx216_2⟩ := at_T53 HR0.out x8_1 p216 q216
        cases e216
        replace hx216_0 := (HB.out.cell (World.block_lt_of_cell? w _ hx216_0)).trans hx216_0
        replace hx216_1 := (HB.out.cell (World.block_lt_of_cell? w _ hx216_1)).trans hx216_1
        replace hx216_2 := (HB.out.cell (World.block_lt_of_cell? w _ hx216_2)).trans hx216_2
        replace p216 := eq_true p216
        replace q216 := eq_true q216
        go_wp2_with (first | ((with_reducible refine gate_dst (N := 5) rfl ?_); refine box_event ?hg (N := 5) ?hd (cs := #[.int .i64 0, .int .i64 0, .string (⟨#[]⟩ : ByteArray)]) (t := 53) ?hr ?_; (case hd => rfl); (case hg => rfl); (case hr => first | (go_simp; done) | (go_simp; rfl)); intro gb217 hg w10 hbox hb; have n0_ := aMk (below_step (aP80) hb); have n1_ := aMk (hbox); have n2_ := aMk ((aP81 : w.heap.size ≤ gb217)); have n3_ := aMk ((aP81 : w.heap.size ≤ gb217)); clear HB; have HB := n0_; have BK217 := n1_; have GW217 := n2_; have GE217 := n3_; clear n0_ n1_ n2_ n3_; clear hb hbox hg; have hcz11_0 : w10.cell? ⟨gb217, 0, none⟩ = some (.int .i64 0) := (blk_cell BK217.out 0).trans rfl; have hcz11_1 : w10.cell? ⟨gb217, 1, none⟩ = some (.int .i64 0) := (blk_cell BK217.out 1).trans rfl; have hcz11_2 : w10.cell? ⟨gb217, 2, none⟩ = some (.string (⟨#[]⟩ : ByteArray)) := (blk_cell BK217.out 2).trans rfl; have hfz11_0 := blk_frozen BK217.out 0; have hfz11_1 := blk_frozen BK217.out 1; have hfz11_2 := blk_frozen BK217.out 2))
        go_roundg k1
        case measure => have := HK1.out; omega
        case rel => exact ⟨(wrap64 (x3_1 + ((rd_T53 l0 x8_1).f1))), (wrap64 (x8_1 + 1)), (aP77), (aP77), H', ⟨by have := HK1.out; omega⟩, ⟨aP120⟩⟩
       ·rw [if_neg c9] at H
        have c9b0 : (((rd_T53 l0 x8_1).f0) == 5) = false := beF c9
        have c9b1 : (((rd_T53 l0 x8_1).f0) != 5) = true := bnT c9
        have H' := aMk H
        clear H
        have p216 : 0 ≤ (x8_1 : Int) := of_decide_eq_true (aP75)
        have q216 : x8_1 < (l0.length : Int) := of_decide_eq_true (aP75)
        obtain ⟨ad216, e216, hx216_0, hx216_1, hx216_2⟩ := at_T53 HR0.out x8_1 p216 q216
        cases e216
        replace hx216_0 := (HB.out.cell (World.block_lt_of_cell? w _ hx216_0)).trans hx216_0
        replace hx216_1 := (HB.out.cell (World.block_lt_of_cell? w _ hx216_1)).trans hx216_1
        replace hx216_2 := (HB.out.cell (World.block_lt_of_cell? w _ hx216_2)).trans hx216_2
        replace p216 := eq_true p216
        replace q216 := eq_true q216
        go_wp2_with (first | ((with_reducible refine gate_dst (N := 5) rfl ?_); refine box_event ?hg (N := 5) ?hd (cs := #[.int .i64 0, .int .i64 0, .string (⟨#[]⟩ : ByteArray)]) (t := 53) ?hr ?_; (case hd => rfl); (case hg => rfl); (case hr => first | (go_simp; done) | (go_simp; rfl)); intro gb217 hg w12 hbox hb; have n0_ := aMk (below_step (aP80) hb); have n1_ := aMk (hbox); have n2_ := aMk ((aP81 : w.heap.size ≤ gb217)); have n3_ := aMk ((aP81 : w.heap.size ≤ gb217)); clear HB; have HB := n0_; have BK217 := n1_; have GW217 := n2_; have GE217 := n3_; clear n0_ n1_ n2_ n3_; clear hb hbox hg; have hcz13_0 : w12.cell? ⟨gb217, 0, none⟩ = some (.int .i64 0) := (blk_cell BK217.out 0).trans rfl; have hcz13_1 : w12.cell? ⟨gb217, 1, none⟩ = some (.int .i64 0) := (blk_cell BK217.out 1).trans rfl; have hcz13_2 : w12.cell? ⟨gb217, 2, none⟩ = some (.string (⟨#[]⟩ : ByteArray)) := (blk_cell BK217.out 2).trans rfl; have hfz13_0 := blk_frozen BK217.out 0; have hfz13_1 := blk_frozen BK217.out 1; have hfz13_2 := blk_frozen BK217.out 2))
        go_roundg k1
        case measure => have := HK1.out; omega
        case rel => exact ⟨(wrap64 (x3_1 + 1)), (wrap64 (x8_1 + 1)), (aP77), (aP77), H', ⟨by have := HK1.out; omega⟩, ⟨aP120⟩⟩
     ·rw [if_neg c4] at H
      exact absurd H (by simp)
    ·rw [if_neg c3] at H
     exact absurd H (by simp)
   ·rw [if_neg c2] at H
    have c2b0 : decide (x8_1 < (l0.length : Int)) = false := dFa c2
    clear c2
    obtain rfl := Option.some.inj H
    exact aP44
end Go.Proofs.Ytacnjemndfmbhaa.Q
end
section
namespace Go.Proofs.Ytacnjemndfmbhaa.Q
open Go.RowKit Go.Proofs.YtacnjemndfmbhaaW.PrintWords Go.Proofs.YtacnjemndfmbhaaW.PrintLast Go.Proofs.YtacnjemndfmbhaaW.PrintMore
attribute [local go_sem] max2_int min2_int max_two min_two max_three min_three max_four min_four   -- for this text's walks alone
set_option linter.unusedVariables false
set_option linter.unusedSimpArgs false
def quipuref14_runes.l0 : Nat → List (S53) → Int → Int → Option (Int)
 | 0, _, _, _ => none
 | k + 1, x0, x3, x4 => if x4 < (x0.length : Int) then (if 0 ≤ x4 then (if ((rd_T53 x0 x4).f0) = 0 then ((quipuref11_Runes.f k ((rd_T53 x0 x4).f2)).bind fun t221 => (quipuref14_runes.l0 k x0 (wrap64 (x3 + t221)) (wrap64 (x4 + 1)))) else (if ((rd_T53 x0 x4).f0) = 5 then (quipuref14_runes.l0 k x0 (wrap64 (x3 + ((rd_T53 x0 x4).f1))) (wrap64 (x4 + 1))) else (quipuref14_runes.l0 k x0 (wrap64 (x3 + 1)) (wrap64 (x4 + 1))))) else (none)) else (some x3)
def quipuref14_runes.f (k : Nat) (l0 : List (S53)) : Option (Int) := quipuref14_runes.l0 k l0 0 0
set_option maxHeartbeats 8000000 in
set_option maxRecDepth 100000 in
theorem quipuref14_runes.calls (k : Nat) (A0 : Option Addr) (c0 : Nat) (l0 : List (S53)) (r : Int) (w : World) (hr0 : Kd.C k53 w A0 l0.length l0) (hc0 : l0.length ≤ c0) (h : quipuref14_runes.f k l0 = some r) :
  Calls Try.prog 52 #[.slice A0 l0.length c0] w fun e w' => e = .returned (.int .i64 r) ∧ Drawn0 w w' := by
 have HR0 := aMk hr0
 have HC0 := aMk hc0
 clear hr0 hc0
 have H : (quipuref14_runes.l0 k l0 0 0) = some r := h
 clear h
 have H' := aMk H
 clear H
 go_enter Try.func52, Try.ntmps52
 go_wp2
 go_loopg [3, 4] k (fun kq v3 v4 w' => ∃ (x3_1 : Int) (x4_1 : Int), v3 = .int .i64 x3_1 ∧ v4 = .int .i64 x4_1 ∧ Aside0 (quipuref14_runes.l0 kq l0 x3_1 x4_1 = some r) ∧ Aside0 (kq ≤ k) ∧ Drawn0 w w')
 case atStart => exact ⟨(0), (0), (aP77), (aP77), H', ⟨Nat.le_refl _⟩, aP78⟩
 case round =>
  clear H'
  obtain ⟨x3_1, x4_1, rfl, rfl, HA, HK1, ⟨m1, rfl⟩⟩ := hrel
  cases gk with
  | zero => exact absurd HA.out (by simp [quipuref14_runes.l0])
  | succ k1 =>
   have H := HA.out
   clear HA
   simp only [quipuref14_runes.l0] at H
   by_cases c2 : x4_1 < (l0.length : Int)
   ·rw [if_pos c2] at H
    have c2b0 : decide (x4_1 < (l0.length : Int)) = true := dTr c2
    clear c2
    by_cases c3 : 0 ≤ x4_1
    ·rw [if_pos c3] at H
     have c3b0 : decide (0 ≤ x4_1) = true := dTr c3
     clear c3
     by_cases c4 : ((rd_T53 l0 x4_1).f0) = 0
     ·rw [if_pos c4] at H
      have c4b0 : (((rd_T53 l0 x4_1).f0) == 0) = true := beT c4
      have c4b1 : (((rd_T53 l0 x4_1).f0) != 0) = false := bnF c4
      clear c4
      replace H := Option.bind_eq_some_iff.mp H
      obtain ⟨t221, A50, H⟩ := H
      replace H : (quipuref14_runes.l0 k1 l0 (wrap64 (x3_1 + t221)) (wrap64 (x4_1 + 1))) = some r := H
      have A5 := aMk A50
      clear A50
      have H' := aMk H
      clear H
      have p219 : 0 ≤ (x4_1 : Int) := of_decide_eq_true (aP75)
      have q219 : x4_1 < (l0.length : Int) := of_decide_eq_true (aP75)
      obtain ⟨ad219, e219, hx219_0, hx219_1, hx219_2⟩ := at_T53 HR0.out x4_1 p219 q219
      cases e219
      replace p219 := eq_true p219
      replace q219 := eq_true q219
      have p220 : 0 ≤ (x4_1 : Int) := of_decide_eq_true (aP75)
      have q220 : x4_1 < (l0.length : Int) := of_decide_eq_true (aP75)
      obtain ⟨ad220, e220, hx220_0, hx220_1, hx220_2⟩ := at_T53 HR0.out x4_1 p220 q220
      obtain rfl : ad219 = ad220 := (by injection e220)
      replace p220 := eq_true p220
      replace q220 := eq_true q220
      go_wp2_with (first | ((with_reducible refine gate_callee (f := 57) rfl ?_); refine goesL_ (some 26) rfl rfl Try.func57 (by kernel_rfl) rfl #[.string ((rd_T53 l0 x4_1).f2)] rfl (aP76) ?_; (with_reducible refine (quipuref11_Runes.calls k1 ((rd_T53 l0 x4_1).f2) t221 _ A5.out).mono ?_); rintro e w' ⟨rfl, ⟨nd, rfl⟩⟩; refine ⟨_, rfl, ?_⟩))
      go_roundg k1
      case measure => have := HK1.out; omega
      case rel => exact ⟨(wrap64 (x3_1 + t221)), (wrap64 (x4_1 + 1)), (aP77), (aP77), H', ⟨by have := HK1.out; omega⟩, aP78⟩
     ·rw [if_neg c4] at H
      have c4b0 : (((rd_T53 l0 x4_1).f0) == 0) = false := beF c4
      have c4b1 : (((rd_T53 l0 x4_1).f0) != 0) = true := bnT c4
      by_cases c6 : ((rd_T53 l0 x4_1).f0) = 5
      ·rw [if_pos c6] at H
       have c6b0 : (((rd_T53 l0 x4_1).f0) == 5) = true := beT c6
       have c6b1 : (((rd_T53 l0 x4_1).f0) != 5) = false := bnF c6
       clear c6
       have H' := aMk H
       clear H
       have p219 : 0 ≤ (x4_1 : Int) := of_decide_eq_true (aP75)
       have q219 : x4_1 < (l0.length : Int) := of_decide_eq_true (aP75)
       obtain ⟨ad219, e219, hx219_0, hx219_1, hx219_2⟩ := at_T53 HR0.out x4_1 p219 q219
       cases e219
       replace p219 := eq_true p219
       replace q219 := eq_true q219
       have p222 : 0 ≤ (x4_1 : Int) := of_decide_eq_true (aP75)
       have q222 : x4_1 < (l0.length : Int) := of_decide_eq_true (aP75)
       obtain ⟨ad222, e222, hx222_0, hx222_1, hx222_2⟩ := at_T53 HR0.out x4_1 p222 q222
       obtain rfl : ad219 = ad222 := (by injection e222)
       replace p222 := eq_true p222
       replace q222 := eq_true q222
       go_wp2
       go_roundg k1
       case measure => have := HK1.out; omega
       case rel => exact ⟨(wrap64 (x3_1 + ((rd_T53 l0 x4_1).f1))), (wrap64 (x4_1 + 1)), (aP77), (aP77), H', ⟨by have := HK1.out; omega⟩, aP78⟩
      ·rw [if_neg c6] at H
       have c6b0 : (((rd_T53 l0 x4_1).f0) == 5) = false := beF c6
       have c6b1 : (((rd_T53 l0 x4_1).f0) != 5) = true := bnT c6
       have H' := aMk H
       clear H
       have p219 : 0 ≤ (x4_1 : Int) := of_decide_eq_true (aP75)
       have q219 : x4_1 < (l0.length : Int) := of_decide_eq_true (aP75)
       obtain ⟨ad219, e219, hx219_0, hx219_1, hx219_2⟩ := at_T53 HR0.out x4_1 p219 q219
       cases e219
       replace p219 := eq_true p219
       replace q219 := eq_true q219
       go_wp2
       go_roundg k1
       case measure => have := HK1.out; omega
       case rel => exact ⟨(wrap64 (x3_1 + 1)), (wrap64 (x4_1 + 1)), (aP77), (aP77), H', ⟨by have := HK1.out; omega⟩, aP78⟩
    ·rw [if_neg c3] at H
     exact absurd H (by simp)
   ·rw [if_neg c2] at H
    have c2b0 : decide (x4_1 < (l0.length : Int)) = false := dFa c2
    exact aP51
def quipuref14_times.l0 : Nat → ByteArray → Int → ByteArray → Int → Option (ByteArray)
 | 0, _, _, _, _ => none
 | k + 1, x0, x1, x5, x6 => if x6 < x1 then (if x5.size + x0.size ≤ 9223372036854775807 then (quipuref14_times.l0 k x0 x1 (x5 ++ x0) (wrap64 (x6 + 1))) else (none)) else (some x5)
def quipuref14_times.f (k : Nat) (a0 : ByteArray) (a1 : Int) : Option (ByteArray) := quipuref14_times.l0 k a0 a1 (⟨#[]⟩ : ByteArray) 0
set_option maxHeartbeats 8000000 in
set_option maxRecDepth 100000 in
theorem quipuref14_times.calls (k : Nat) (a0 : ByteArray) (a1 : Int) (r : ByteArray) (w : World) (h : quipuref14_times.f k a0 a1 = some r) :
  Calls Try.prog 80 #[.string a0, .int .i64 a1] w fun e w' => e = .returned (.string r) ∧ Drawn0 w w' := by
 have H : (quipuref14_times.l0 k a0 a1 (⟨#[]⟩ : ByteArray) 0) = some r := h
 clear h
 have H' := aMk H
 clear H
 go_enter Try.func80, Try.ntmps80
 go_wp2
 go_loopg [5, 6] k (fun kq v5 v6 w' => ∃ (x5_1 : ByteArray) (x6_1 : Int), v5 = .string x5_1 ∧ v6 = .int .i64 x6_1 ∧ Aside0 (quipuref14_times.l0 kq a0 a1 x5_1 x6_1 = some r) ∧ Aside0 (kq ≤ k) ∧ Drawn0 w w')
 case atStart => exact ⟨((⟨#[]⟩ : ByteArray)), (0), (aP77), (aP77), H', ⟨Nat.le_refl _⟩, aP78⟩
 case round =>
  clear H'
  try clear p2
  obtain ⟨x5_1, x6_1, rfl, rfl, HA, HK1, ⟨m1, rfl⟩⟩ := hrel
  cases gk with
  | zero => exact absurd HA.out (by simp [quipuref14_times.l0])
  | succ k1 =>
   have H := HA.out
   clear HA
   simp only [quipuref14_times.l0] at H
   by_cases c3 : x6_1 < a1
   ·rw [if_pos c3] at H
    have c3b0 : decide (x6_1 < a1) = true := dTr c3
    clear c3
    by_cases c4 : x5_1.size + a0.size ≤ 9223372036854775807
    ·rw [if_pos c4] at H
     have c4b0 := eq_true c4
     have c4b1 : decide (x5_1.size + a0.size ≤ 9223372036854775807) = true := dTr c4
     try have c4b2 : (9223372036854775807 < x5_1.size + a0.size) = False := eq_false (Nat.not_lt.2 c4)
     have H' := aMk H
     clear H
     go_wp2
     go_roundg k1
     case measure => have := HK1.out; omega
     case rel => exact ⟨(x5_1 ++ a0), (wrap64 (x6_1 + 1)), (aP77), (aP77), H', ⟨by have := HK1.out; omega⟩, aP78⟩
    ·rw [if_neg c4] at H
     exact absurd H (by simp)
   ·rw [if_neg c3] at H
    have c3b0 : decide (x6_1 < a1) = false := dFa c3
    clear c3
    exact aP2
def quipuref14_run.l0 : Nat → ByteArray → Int → Int → Int → Option (Int)
 | 0, _, _, _, _ => none
 | k + 1, x0, x1, x2, x7 => if (wrap64 (x1 + x7)) < (x0.size : Int) then (if 0 ≤ (wrap64 (x1 + x7)) then (if (bt x0 (wrap64 (x1 + x7))) = x2 then (quipuref14_run.l0 k x0 x1 x2 (wrap64 (x7 + 1))) else (some x7)) else (none)) else (some x7)
def quipuref14_run.f (k : Nat) (a0 : ByteArray) (a1 : Int) (a2 : Int) : Option (Int) := quipuref14_run.l0 k a0 a1 a2 0
set_option maxHeartbeats 8000000 in
set_option maxRecDepth 100000 in
theorem quipuref14_run.calls (k : Nat) (a0 : ByteArray) (a1 : Int) (a2 : Int) (r : Int) (w : World) (h : quipuref14_run.f k a0 a1 a2 = some r) :
  Calls Try.prog 74 #[.string a0, .int .i64 a1, .int .u8 a2] w fun e w' => e = .returned (.int .i64 r) ∧ Drawn0 w w' := by
 have H : (quipuref14_run.l0 k a0 a1 a2 0) = some r := h
 clear h
 have H' := aMk H
 clear H
 go_enter Try.func74, Try.ntmps74
 go_wp2
 go_loopg [7] k (fun kq v7 w' => ∃ (x7_1 : Int), v7 = .int .i64 x7_1 ∧ Aside0 (quipuref14_run.l0 kq a0 a1 a2 x7_1 = some r) ∧ Aside0 (kq ≤ k) ∧ Drawn0 w w')
 case atStart => exact ⟨(0), (aP77), H', ⟨Nat.le_refl _⟩, aP78⟩
 case round =>
  clear H'
  try clear p2
  obtain ⟨x7_1, rfl, HA, HK1, ⟨m1, rfl⟩⟩ := hrel
  cases gk with
  | zero => exact absurd HA.out (by simp [quipuref14_run.l0])
  | succ k1 =>
   have H := HA.out
   clear HA
   simp only [quipuref14_run.l0] at H
   by_cases c4 : (wrap64 (a1 + x7_1)) < (a0.size : Int)
   ·rw [if_pos c4] at H
    have c4b0 : decide ((wrap64 (a1 + x7_1)) < (a0.size : Int)) = true := dTr c4
    clear c4
    obtain ⟨ji5, hji5⟩ : ∃ j_ : Int, (wrap64 (a1 + x7_1)) = j_ := ⟨_, rfl⟩
    replace H : (if 0 ≤ (ji5) then (if (bt a0 (ji5)) = a2 then (quipuref14_run.l0 k1 a0 a1 a2 (wrap64 (x7_1 + 1))) else (some x7_1)) else (none)) = some r := by first | (rw [hji5] at H; exact H) | (simp only [hji5] at H ⊢; exact H)
    (try rw [hji5] at c4b0)
    have hji5w : (IntKind.i64.wrap (a1 + x7_1)) = ji5 := (i64_w _).trans hji5
    by_cases c6 : 0 ≤ (ji5)
    ·rw [if_pos c6] at H
     have c6b0 : decide (0 ≤ (ji5)) = true := dTr c6
     clear c6
     by_cases c8 : (bt a0 (ji5)) = a2
     ·rw [if_pos c8] at H
      have c8b0 : ((bt a0 (ji5)) == a2) = true := beT c8
      have c8b1 : ((bt a0 (ji5)) != a2) = false := bnF c8
      clear c8
      have H' := aMk H
      clear H
      have p7 : 0 ≤ ((ji5) : Int) := of_decide_eq_true (aP75)
      have q7 : (ji5) < (a0.size : Int) := of_decide_eq_true (aP75)
      have hx7 := bt_at a0 (ji5)
      replace p7 := eq_true p7
      replace q7 := eq_true q7
      go_wp2
      go_roundg k1
      case measure => have := HK1.out; omega
      case rel => exact ⟨(wrap64 (x7_1 + 1)), (aP77), H', ⟨by have := HK1.out; omega⟩, aP78⟩
     ·rw [if_neg c8] at H
      have c8b0 : ((bt a0 (ji5)) == a2) = false := beF c8
      have c8b1 : ((bt a0 (ji5)) != a2) = true := bnT c8
      obtain rfl := Option.some.inj H
      have p7 : 0 ≤ ((ji5) : Int) := of_decide_eq_true (aP75)
      have q7 : (ji5) < (a0.size : Int) := of_decide_eq_true (aP75)
      have hx7 := bt_at a0 (ji5)
      replace p7 := eq_true p7
      replace q7 := eq_true q7
      go_wp2
      go_ret
      exact ⟨by first | rfl | (simp; done) | (simp only [← hji5] <;> (first | rfl | simp)) | (simp [*]; done), aP78⟩
    ·rw [if_neg c6] at H
     exact absurd H (by simp)
   ·rw [if_neg c4] at H
    have c4b0 : decide ((wrap64 (a1 + x7_1)) < (a0.size : Int)) = false := dFa c4
    clear c4
    exact aP2
mutual
def quipuref14_stop.l0 : Nat → ByteArray → ByteArray → Bool → Int → Option (Int)
 | 0, _, _, _, _ => none
 | k + 1, x0, x2, x7, x8 => if x8 < (x0.size : Int) then (if 0 ≤ x8 then (if (bt x0 x8) = 39 then (quipuref14_stop.j1 k x0 x2 (!x7) x8) else (quipuref14_stop.j1 k x0 x2 x7 x8)) else (none)) else (some (x0.size : Int))
def quipuref14_stop.j1 : Nat → ByteArray → ByteArray → Bool → Int → Option (Int)
 | 0, _, _, _, _ => none
 | k + 1, x0, x2, x7, x8 => quipuref14_stop.l1 k x0 x2 x7 x8 0
def quipuref14_stop.l1 : Nat → ByteArray → ByteArray → Bool → Int → Int → Option (Int)
 | 0, _, _, _, _, _ => none
 | k + 1, x0, x2, x7, x8, x9 => if x9 < (x2.size : Int) then (quipuref14_stop.j3 k x0 x2 x7 x8 x9 (!x7)) else (quipuref14_stop.j3 k x0 x2 x7 x8 x9 false)
def quipuref14_stop.j3 : Nat → ByteArray → ByteArray → Bool → Int → Int → Bool → Option (Int)
 | 0, _, _, _, _, _, _ => none
 | k + 1, x0, x2, x7, x8, x9, x30 => if x30 = true then (if 0 ≤ x8 then (if x8 < (x0.size : Int) then (if 0 ≤ x9 then (if x9 < (x2.size : Int) then (if (bt x0 x8) = (bt x2 x9) then (some x8) else (quipuref14_stop.l1 k x0 x2 x7 x8 (wrap64 (x9 + 1)))) else (none)) else (none)) else (none)) else (none)) else (quipuref14_stop.l0 k x0 x2 x7 (wrap64 (x8 + 1)))
end
def quipuref14_stop.f (k : Nat) (a0 : ByteArray) (a1 : Int) (a2 : ByteArray) : Option (Int) := quipuref14_stop.l0 k a0 a2 false a1
set_option maxHeartbeats 8000000 in
set_option maxRecDepth 100000 in
theorem quipuref14_stop.calls (k : Nat) (a0 : ByteArray) (a1 : Int) (a2 : ByteArray) (r : Int) (w : World) (h : quipuref14_stop.f k a0 a1 a2 = some r) :
  Calls Try.prog 48 #[.string a0, .int .i64 a1, .string a2] w fun e w' => e = .returned (.int .i64 r) ∧ Drawn0 w w' := by
 have H : (quipuref14_stop.l0 k a0 a2 false a1) = some r := h
 clear h
 have H' := aMk H
 clear H
 go_enter Try.func48, Try.ntmps48
 go_wp2
 repeat (go_quiet (fail); try go_wp2)
 go_loopg [7, 8] k (fun kq v7 v8 w' => ∃ (x7_1 : Bool) (x8_1 : Int), v7 = .bool x7_1 ∧ v8 = .int .i64 x8_1 ∧ Aside0 (quipuref14_stop.l0 kq a0 a2 x7_1 x8_1 = some r) ∧ Aside0 (kq ≤ k) ∧ Drawn0 w w')
 case atStart => exact ⟨(false), (a1), (aP77), (aP77), H', ⟨Nat.le_refl _⟩, aP78⟩
 case round =>
  clear H'
  try clear p2
  obtain ⟨x7_1, x8_1, rfl, rfl, HA, HK1, ⟨m1, rfl⟩⟩ := hrel
  cases gk with
  | zero => exact absurd HA.out (by simp [quipuref14_stop.l0])
  | succ k1 =>
   have H := HA.out
   clear HA
   simp only [quipuref14_stop.l0] at H
   by_cases c4 : x8_1 < (a0.size : Int)
   ·rw [if_pos c4] at H
    have c4b0 : decide (x8_1 < (a0.size : Int)) = true := dTr c4
    clear c4
    by_cases c5 : 0 ≤ x8_1
    ·rw [if_pos c5] at H
     have c5b0 : decide (0 ≤ x8_1) = true := dTr c5
     clear c5
     have HC7 := aMk H
     clear H
     have p6 : 0 ≤ (x8_1 : Int) := of_decide_eq_true (aP75)
     have q6 : x8_1 < (a0.size : Int) := of_decide_eq_true (aP75)
     have hx6 := bt_at a0 x8_1
     replace p6 := eq_true p6
     replace q6 := eq_true q6
     go_upto_if 20 with (fail)
     repeat (go_quiet (fail); go_upto_if 20 with (fail))
     go_cut [7] (fun v7 wc => ∃ (kq : Nat) (x7_6 : Bool), v7 = .bool x7_6 ∧ Aside0 (quipuref14_stop.j1 kq a0 a2 x7_6 x8_1 = some r) ∧ Aside0 (kq ≤ k1) ∧ Drawn0 w wc)
     case first =>
      have H := HC7.out
      clear HC7
      by_cases c8 : (bt a0 x8_1) = 39
      ·rw [if_pos c8] at H
       have c8b0 : ((bt a0 x8_1) == 39) = true := beT c8
       have c8b1 : ((bt a0 x8_1) != 39) = false := bnF c8
       clear c8
       (first | rw [c8b0] | (simp only [i64_w, i32_w]; rw [c8b0]) | skip)
       have H' := aMk H
       clear H
       go_wp2
       repeat (go_quiet (fail); try go_wp2)
       go_meet
       case rel => exact ⟨_, (!x7_1), (aP77), H', ⟨aP119⟩, aP78⟩
      ·rw [if_neg c8] at H
       have c8b0 : ((bt a0 x8_1) == 39) = false := beF c8
       have c8b1 : ((bt a0 x8_1) != 39) = true := bnT c8
       (first | rw [c8b0] | (simp only [i64_w, i32_w]; rw [c8b0]) | skip)
       have H' := aMk H
       clear H
       go_wp2
       repeat (go_quiet (fail); try go_wp2)
       go_meet
       case rel => exact ⟨_, (x7_1), (aP77), H', ⟨aP119⟩, aP78⟩
     case rest =>
      clear HC7
      try clear p2
      try clear c4
      try clear c4b0
      try clear c5
      try clear c5b0
      try clear p6
      try clear q6
      try clear hx6
      try clear c8
      try clear c8b0
      try clear c8b1
      try clear p2
      try clear p6
      try clear q6
      obtain ⟨kq, x7_6, rfl, HA, HJ6, ⟨mc6, rfl⟩⟩ := hcut
      cases kq with
      | zero => exact absurd HA.out (by simp [quipuref14_stop.j1])
      | succ kj6 =>
       have H := HA.out
       clear HA
       simp only [quipuref14_stop.j1] at H
       have H' := aMk H
       clear H
       go_wp2
       repeat (go_quiet (fail); try go_wp2)
       go_loopg [9] kj6 (fun kq v9 w' => ∃ (x9_3 : Int), v9 = .int .i64 x9_3 ∧ Aside0 (quipuref14_stop.l1 kq a0 a2 x7_6 x8_1 x9_3 = some r) ∧ Aside0 (kq ≤ kj6) ∧ Drawn0 w w')
       case atStart => exact ⟨(0), (aP77), H', ⟨Nat.le_refl _⟩, aP78⟩
       case round =>
        clear H'
        try clear p2
        try clear c4
        try clear c4b0
        try clear c5
        try clear c5b0
        try clear c6
        try clear p6
        try clear q6
        try clear hx6
        try clear c8
        try clear c8b0
        try clear c8b1
        try clear p2
        try clear p6
        try clear q6
        obtain ⟨x9_3, rfl, HA, HK3, ⟨m3, rfl⟩⟩ := hrel
        cases gk with
        | zero => exact absurd HA.out (by simp [quipuref14_stop.l1])
        | succ k3 =>
         have H := HA.out
         clear HA
         simp only [quipuref14_stop.l1] at H
         have HC9 := aMk H
         clear H
         go_upto_region 8 with (fail)
         repeat (go_quiet (fail); go_upto_region 8 with (fail))
         go_cut [30] (fun v30 wc => ∃ (kq : Nat) (x30_8 : Bool), v30 = .bool x30_8 ∧ Aside0 (quipuref14_stop.j3 kq a0 a2 x7_6 x8_1 x9_3 x30_8 = some r) ∧ Aside0 (kq ≤ k3) ∧ Drawn0 w wc)
         case first =>
          have H := HC9.out
          clear HC9
          by_cases c10 : x9_3 < (a2.size : Int)
          ·rw [if_pos c10] at H
           have c10b0 : decide (x9_3 < (a2.size : Int)) = true := dTr c10
           clear c10
           (first | rw [c10b0] | (simp only [i64_w, i32_w]; rw [c10b0]) | skip)
           have H' := aMk H
           clear H
           go_wp2
           repeat (go_quiet (fail); try go_wp2)
           go_meet
           case rel => exact ⟨_, (!x7_6), (aP77), H', ⟨by have := HK1.out; have := HJ6.out; have := HK3.out; first | omega | exact Nat.le_refl _⟩, aP78⟩
          ·rw [if_neg c10] at H
           have c10b0 : decide (x9_3 < (a2.size : Int)) = false := dFa c10
           clear c10
           (first | rw [c10b0] | (simp only [i64_w, i32_w]; rw [c10b0]) | skip)
           have H' := aMk H
           clear H
           go_wp2
           repeat (go_quiet (fail); try go_wp2)
           go_meet
           case rel => exact ⟨_, (false), (aP77), H', ⟨by have := HK1.out; have := HJ6.out; have := HK3.out; first | omega | exact Nat.le_refl _⟩, aP78⟩
         case rest =>
          clear HC9
          try clear c1
          try clear p2
          try clear c4
          try clear c4b0
          try clear c5
          try clear c5b0
          try clear c6
          try clear p6
          try clear q6
          try clear hx6
          try clear c8
          try clear c8b0
          try clear c8b1
          try clear c10
          try clear c10b0
          try clear p2
          try clear p6
          try clear q6
          obtain ⟨kq, x30_8, rfl, HA, HJ8, ⟨mc8, rfl⟩⟩ := hcut
          cases kq with
          | zero => exact absurd HA.out (by simp [quipuref14_stop.j3])
          | succ kj8 =>
           have H := HA.out
           clear HA
           simp only [quipuref14_stop.j3] at H
           by_cases c11 : x30_8 = true
           ·subst c11
            have H1 : (if 0 ≤ x8_1 then (if x8_1 < (a0.size : Int) then (if 0 ≤ x9_3 then (if x9_3 < (a2.size : Int) then (if (bt a0 x8_1) = (bt a2 x9_3) then (some x8_1) else (quipuref14_stop.l1 kj8 a0 a2 x7_6 x8_1 (wrap64 (x9_3 + 1)))) else (none)) else (none)) else (none)) else (none)) = some r := aP79
            clear H
            have H := H1
            clear H1
            by_cases c12 : 0 ≤ x8_1
            ·rw [if_pos c12] at H
             have c12b0 : decide (0 ≤ x8_1) = true := dTr c12
             clear c12
             by_cases c13 : x8_1 < (a0.size : Int)
             ·rw [if_pos c13] at H
              have c13b0 : decide (x8_1 < (a0.size : Int)) = true := dTr c13
              clear c13
              by_cases c15 : 0 ≤ x9_3
              ·rw [if_pos c15] at H
               have c15b0 : decide (0 ≤ x9_3) = true := dTr c15
               clear c15
               by_cases c16 : x9_3 < (a2.size : Int)
               ·rw [if_pos c16] at H
                have c16b0 : decide (x9_3 < (a2.size : Int)) = true := dTr c16
                clear c16
                by_cases c18 : (bt a0 x8_1) = (bt a2 x9_3)
                ·rw [if_pos c18] at H
                 have c18b0 : ((bt a0 x8_1) == (bt a2 x9_3)) = true := beT c18
                 have c18b1 : ((bt a0 x8_1) != (bt a2 x9_3)) = false := bnF c18
                 clear c18
                 obtain rfl := Option.some.inj H
                 have p14 : 0 ≤ (x8_1 : Int) := of_decide_eq_true (aP75)
                 have q14 : x8_1 < (a0.size : Int) := of_decide_eq_true (aP75)
                 have hx14 := bt_at a0 x8_1
                 replace p14 := eq_true p14
                 replace q14 := eq_true q14
                 have p17 : 0 ≤ (x9_3 : Int) := of_decide_eq_true (aP75)
                 have q17 : x9_3 < (a2.size : Int) := of_decide_eq_true (aP75)
                 have hx17 := bt_at a2 x9_3
                 replace p17 := eq_true p17
                 replace q17 := eq_true q17
                 exact aP47
                ·rw [if_neg c18] at H
                 have c18b0 : ((bt a0 x8_1) == (bt a2 x9_3)) = false := beF c18
                 have c18b1 : ((bt a0 x8_1) != (bt a2 x9_3)) = true := bnT c18
                 have H' := aMk H
                 clear H
                 have p14 : 0 ≤ (x8_1 : Int) := of_decide_eq_true (aP75)
                 have q14 : x8_1 < (a0.size : Int) := of_decide_eq_true (aP75)
                 have hx14 := bt_at a0 x8_1
                 replace p14 := eq_true p14
                 replace q14 := eq_true q14
                 have p17 : 0 ≤ (x9_3 : Int) := of_decide_eq_true (aP75)
                 have q17 : x9_3 < (a2.size : Int) := of_decide_eq_true (aP75)
                 have hx17 := bt_at a2 x9_3
                 replace p17 := eq_true p17
                 replace q17 := eq_true q17
                 go_wp2
                 repeat (go_quiet (fail); try go_wp2)
                 go_roundg kj8
                 case measure => have := HK1.out; have := HJ6.out; have := HK3.out; have := HJ8.out; omega
                 case rel => exact ⟨(wrap64 (x9_3 + 1)), (aP77), H', ⟨by have := HK1.out; have := HJ6.out; have := HK3.out; have := HJ8.out; omega⟩, aP78⟩
               ·rw [if_neg c16] at H
                exact absurd H (by simp)
              ·rw [if_neg c15] at H
               exact absurd H (by simp)
             ·rw [if_neg c13] at H
              exact absurd H (by simp)
            ·rw [if_neg c12] at H
             exact absurd H (by simp)
           ·replace c11 := Bool.eq_false_iff.mpr c11
            subst c11
            have H1 : (quipuref14_stop.l0 kj8 a0 a2 x7_6 (wrap64 (x8_1 + 1))) = some r := aP74
            clear H
            have H := H1
            clear H1
            have H' := aMk H
            clear H
            go_wp2
            repeat (go_quiet (fail); try go_wp2)
            go_roundg kj8
            case measure => have := HK1.out; have := HJ6.out; have := HK3.out; have := HJ8.out; omega
            case rel => exact ⟨(x7_6), (wrap64 (x8_1 + 1)), (aP77), (aP77), H', ⟨by have := HK1.out; have := HJ6.out; have := HK3.out; have := HJ8.out; omega⟩, aP78⟩
    ·rw [if_neg c5] at H
     exact absurd H (by simp)
   ·rw [if_neg c4] at H
    have c4b0 : decide (x8_1 < (a0.size : Int)) = false := dFa c4
    exact aP48
end Go.Proofs.Ytacnjemndfmbhaa.Q
end
section
namespace Go.Proofs.Ytacnjemndfmbhaa.R1
open Go.RowKit Go.Proofs.Ytacnjemndfmbhaa.Q Go.Proofs.YtacnjemndfmbhaaW.PrintWords Go.Proofs.YtacnjemndfmbhaaW.PrintLast
set_option linter.unusedVariables false
set_option linter.unusedSimpArgs false
def W (s : ByteArray) (i lo hi : Int) : Bool := decide (i < s.size) && (decide (lo ≤ bt s i) && decide (bt s i ≤ hi))
def runeS (s : ByteArray) (p : Int) : Int :=
 if p < 0 then 0 else if (s.size : Int) ≤ p then 0 else
 if bt s p < 128 then 1 else if bt s p < 194 then 0
 else if bt s p < 224 then (if W s (p + 1) 128 191 = true then 2 else 0)
 else if bt s p = 224 then (if (W s (p + 1) 160 191 && W s (p + 2) 128 191) = true then 3 else 0)
 else if bt s p = 237 then (if (W s (p + 1) 128 159 && W s (p + 2) 128 191) = true then 3 else 0)
 else if bt s p < 240 then (if (W s (p + 1) 128 191 && W s (p + 2) 128 191) = true then 3 else 0)
 else if bt s p = 240 then (if (W s (p + 1) 144 191 && (W s (p + 2) 128 191 && W s (p + 3) 128 191)) = true then 4 else 0)
 else if bt s p < 244 then (if (W s (p + 1) 128 191 && (W s (p + 2) 128 191 && W s (p + 3) 128 191)) = true then 4 else 0)
 else if bt s p = 244 then (if (W s (p + 1) 128 143 && (W s (p + 2) 128 191 && W s (p + 3) 128 191)) = true then 4 else 0)
 else 0
theorem wr (x : Int) (h0 : 0 ≤ x) (h1 : x ≤ 9223372036854775807) : wrap64 x = x := by unfold wrap64; omega
theorem within_eq (s : ByteArray) (i lo hi : Int) (h : 0 ≤ i) : quipuref11_within.f s i lo hi = some (W s i lo hi) := by
 have hb := bt_range s i
 simp only [quipuref11_within.f, W, wr (bt s i) hb.1 (by omega)]
 by_cases h1 : i < s.size
 ·rw [if_pos h1, if_pos h]
  by_cases h2 : bt s i ≥ lo
  ·rw [if_pos h2]; simp [h1, h2]
  ·rw [if_neg h2]; simp [h1, h2]
 ·rw [if_neg h1]; simp [h1]
section
variable (s : ByteArray) (p c : Int) (v0 u2 u3 : Bool)
def T7 (x : Bool) : Int := if x = true then 4 else if c = 244 then (if (W s (p + 1) 128 143 && (u2 && u3)) = true then 4 else 0) else 0
def T6 (x : Bool) : Int := if x = true then 4 else if 241 ≤ c ∧ c ≤ 243 then T7 s p c u2 u3 (v0 && (u2 && u3)) else T7 s p c u2 u3 false
def T5 (x : Bool) : Int := if x = true then 3 else if c = 240 then T6 s p c v0 u2 u3 (W s (p + 1) 144 191 && (u2 && u3)) else T6 s p c v0 u2 u3 false
def T4 (x : Bool) : Int := if x = true then 3 else if c = 237 then T5 s p c v0 u2 u3 (W s (p + 1) 128 159 && u2) else T5 s p c v0 u2 u3 false
def T3 (x : Bool) : Int := if x = true then T4 s p c v0 u2 u3 x else if c = 238 ∨ c = 239 then T4 s p c v0 u2 u3 (v0 && u2) else T4 s p c v0 u2 u3 false
def T2 (x : Bool) : Int := if x = true then 3 else if 225 ≤ c ∧ c ≤ 236 then T3 s p c v0 u2 u3 (v0 && u2) else T3 s p c v0 u2 u3 false
def T1 (x : Bool) : Int := if x = true then 2 else if c = 224 then T2 s p c v0 u2 u3 (W s (p + 1) 160 191 && u2) else T2 s p c v0 u2 u3 false
variable (h0 : 0 ≤ p + 1) (e1 : wrap64 (p + 1) = p + 1)
include h0 e1
theorem t7 (k : Nat) (x : Bool) : quipuref11_Rune.j7 (k + 1) s p c u2 u3 x = some (T7 s p c u2 u3 x) := by
 simp only [quipuref11_Rune.j7, T7, e1, within_eq s (p + 1) _ _ h0, Option.bind_some]
 cases x <;> cases W s (p + 1) 128 143 <;> cases u2 <;> cases u3 <;> simp <;> split <;> rfl
theorem t6 (k : Nat) (x : Bool) : quipuref11_Rune.j6 (k + 2) s p c v0 u2 u3 x = some (T6 s p c v0 u2 u3 x) := by
 simp only [quipuref11_Rune.j6, T6, t7 s p c u2 u3 h0 e1]
 cases x <;> cases v0 <;> cases u2 <;> simp <;> (by_cases a : c ≥ 241 <;> by_cases b : c ≤ 243 <;> simp [a, b])
theorem t5 (k : Nat) (x : Bool) : quipuref11_Rune.j5 (k + 3) s p c v0 u2 u3 x = some (T5 s p c v0 u2 u3 x) := by
 simp only [quipuref11_Rune.j5, T5, t6 s p c v0 u2 u3 h0 e1, e1, within_eq s (p + 1) _ _ h0, Option.bind_some]
 cases x <;> cases W s (p + 1) 144 191 <;> cases u2 <;> simp <;> split <;> rfl
theorem t4 (k : Nat) (x : Bool) : quipuref11_Rune.j4 (k + 4) s p c v0 u2 u3 x = some (T4 s p c v0 u2 u3 x) := by
 simp only [quipuref11_Rune.j4, T4, t5 s p c v0 u2 u3 h0 e1, e1, within_eq s (p + 1) _ _ h0, Option.bind_some]
 cases x <;> cases W s (p + 1) 128 159 <;> simp <;> split <;> rfl
theorem t3 (k : Nat) (x : Bool) : quipuref11_Rune.j3 (k + 5) s p c v0 u2 u3 x = some (T3 s p c v0 u2 u3 x) := by
 simp only [quipuref11_Rune.j3, T3, t4 s p c v0 u2 u3 h0 e1]
 cases x <;> cases v0 <;> simp <;> (by_cases a : c = 238 <;> by_cases b : c = 239 <;> simp [a, b])
theorem t2 (k : Nat) (x : Bool) : quipuref11_Rune.j2 (k + 6) s p c v0 u2 u3 x = some (T2 s p c v0 u2 u3 x) := by
 simp only [quipuref11_Rune.j2, T2, t3 s p c v0 u2 u3 h0 e1]
 cases x <;> cases v0 <;> simp <;> (by_cases a : c ≥ 225 <;> by_cases b : c ≤ 236 <;> simp [a, b])
theorem t1 (k : Nat) (x : Bool) : quipuref11_Rune.j1 (k + 7) s p c v0 u2 u3 x = some (T1 s p c v0 u2 u3 x) := by
 simp only [quipuref11_Rune.j1, T1, t2 s p c v0 u2 u3 h0 e1, e1, within_eq s (p + 1) _ _ h0, Option.bind_some]
 cases x <;> cases W s (p + 1) 160 191 <;> simp <;> split <;> rfl
end
theorem refRune (s : ByteArray) (p : Int) (hs : s.size ≤ 281474976710656) (k : Nat) : quipuref11_Rune.f (k + 8) s p = some (runeS s p) := by
 have hb := bt_range s p
 by_cases h0 : p < 0
 ·simp [quipuref11_Rune.f, quipuref11_Rune.j0, runeS, h0]
 by_cases h1 : (s.size : Int) ≤ p
 ·simp [quipuref11_Rune.f, quipuref11_Rune.j0, runeS, h0, h1]
 have e1 : wrap64 (p + 1) = p + 1 := wr _ (by omega) (by omega)
 have e2 : wrap64 (p + 2) = p + 2 := wr _ (by omega) (by omega)
 have e3 : wrap64 (p + 3) = p + 3 := wr _ (by omega) (by omega)
 have hd : decide (p ≥ (s.size : Int)) = false := dFa (by omega)
 simp only [quipuref11_Rune.f, quipuref11_Rune.j0, hd, Bool.false_eq_true, if_false, if_neg h0, if_pos (show 0 ≤ p by omega), if_pos (show p < (s.size : Int) by omega), e1, e2, e3,
  within_eq s (p + 1) 128 191 (by omega), within_eq s (p + 2) 128 191 (by omega), within_eq s (p + 3) 128 191 (by omega), Option.bind_some, wr (bt s p) hb.1 (by omega), t1 s p _ _ _ _ (show 0 ≤ p + 1 by omega) e1]
 simp only [runeS, if_neg h0, if_neg h1]
 have hW1 : ∀ lo hi, (128 : Int) ≤ lo → hi ≤ 191 → W s (p + 1) lo hi = true → W s (p + 1) 128 191 = true := fun lo hi hl hh hw => by
  simp only [W, Bool.and_eq_true, decide_eq_true_eq] at hw ⊢
  omega
 have a1 := hW1 160 191 (by omega) (by omega)
 have a2 := hW1 128 159 (by omega) (by omega)
 have a3 := hW1 144 191 (by omega) (by omega)
 have a4 := hW1 128 143 (by omega) (by omega)
 simp only [T1, T2, T3, T4, T5, T6, T7]
 generalize bt s p = c at *
 generalize W s (p + 1) 128 191 = v0 at *
 generalize W s (p + 1) 160 191 = v1 at *
 generalize W s (p + 1) 128 159 = v2 at *
 generalize W s (p + 1) 144 191 = v3 at *
 generalize W s (p + 1) 128 143 = v4 at *
 generalize W s (p + 2) 128 191 = u2 at *
 generalize W s (p + 3) 128 191 = u3 at *
 clear hW1 hd
 have hc : c < 128 ∨ (128 ≤ c ∧ c < 194) ∨ (194 ≤ c ∧ c < 224) ∨ c = 224 ∨ (225 ≤ c ∧ c ≤ 236) ∨ c = 237 ∨ (238 ≤ c ∧ c ≤ 239) ∨ c = 240 ∨ (241 ≤ c ∧ c ≤ 243) ∨ c = 244 ∨ 244 < c := by omega
 rcases hc with hc | hc | hc | hc | hc | hc | hc | hc | hc | hc | hc
 all_goals
  (first | have f0 := eq_true (show c < 128 by omega) | have f0 := eq_false (show ¬ (c < 128) by omega))
  (first | have f1 := eq_true (show c ≥ 194 by omega) | have f1 := eq_false (show ¬ (c ≥ 194) by omega))
  (first | have f2 := eq_true (show c ≤ 223 by omega) | have f2 := eq_false (show ¬ (c ≤ 223) by omega))
  (first | have f3 := eq_true (show c = 224 by omega) | have f3 := eq_false (show ¬ (c = 224) by omega))
  (first | have f4 := eq_true (show 225 ≤ c ∧ c ≤ 236 by omega) | have f4 := eq_false (show ¬ (225 ≤ c ∧ c ≤ 236) by omega))
  (first | have f5 := eq_true (show c = 238 ∨ c = 239 by omega) | have f5 := eq_false (show ¬ (c = 238 ∨ c = 239) by omega))
  (first | have f6 := eq_true (show c = 237 by omega) | have f6 := eq_false (show ¬ (c = 237) by omega))
  (first | have f7 := eq_true (show c = 240 by omega) | have f7 := eq_false (show ¬ (c = 240) by omega))
  (first | have f8 := eq_true (show 241 ≤ c ∧ c ≤ 243 by omega) | have f8 := eq_false (show ¬ (241 ≤ c ∧ c ≤ 243) by omega))
  (first | have f9 := eq_true (show c = 244 by omega) | have f9 := eq_false (show ¬ (c = 244) by omega))
  (first | have f10 := eq_true (show c < 194 by omega) | have f10 := eq_false (show ¬ (c < 194) by omega))
  (first | have f11 := eq_true (show c < 224 by omega) | have f11 := eq_false (show ¬ (c < 224) by omega))
  (first | have f12 := eq_true (show c < 240 by omega) | have f12 := eq_false (show ¬ (c < 240) by omega))
  (first | have f13 := eq_true (show c < 244 by omega) | have f13 := eq_false (show ¬ (c < 244) by omega))
  try simp only [f0, f1, f2, f3, f4, f5, f6, f7, f8, f9, f10, f11, f12, f13, if_true, if_false, Bool.false_eq_true]
 all_goals
  clear hb hc f0 f1 f2 f3 f4 f5 f6 f7 f8 f9 f10 f11 f12 f13
  try (revert a1 a2 a3 a4; cases v0 <;> cases v1 <;> cases v2 <;> cases v3 <;> cases v4 <;> cases u2 <;> cases u3 <;> simp)
def ok (s : ByteArray) (p : Int) : Nat → Int → Int → Int → Bool
 | 0, _, _, _ => true
 | m + 1, lo, hi, i => (decide (lo ≤ bt s (p + i)) && decide (bt s (p + i) ≤ hi)) && ok s p m 128 191 (i + 1)
theorem loop_eq (s : ByteArray) (p n : Int) (hs : s.size ≤ 281474976710656) (h0 : 0 ≤ p) (h1 : p + n ≤ s.size) :
  ∀ (m k : Nat) (lo hi i : Int), i + m = n → 0 ≤ i → cursor_Rune.l0 (m + k + 1) s p lo hi n i = some (if ok s p m lo hi i = true then n else 0)
 | 0, k, lo, hi, i, hi1, hi0 => by
  rw [cursor_Rune.l0, if_neg (by omega)]; simp [ok]
 | m + 1, k, lo, hi, i, hi1, hi0 => by
  have e1 : wrap64 (p + i) = p + i := wr _ (by omega) (by omega)
  have e2 : wrap64 (i + 1) = i + 1 := wr _ (by omega) (by omega)
  rw [show m + 1 + k + 1 = (m + k + 1) + 1 by omega, cursor_Rune.l0, if_pos (by omega), e1, if_pos (by omega), if_pos (by omega), e2, loop_eq s p n hs h0 h1 m k 128 191 (i + 1) (by omega) (by omega)]
  simp only [ok]
  by_cases a : bt s (p + i) < lo
  ·rw [if_pos a]; have : decide (lo ≤ bt s (p + i)) = false := dFa (by omega)
   simp [this]
  ·rw [if_neg a]
   have : decide (lo ≤ bt s (p + i)) = true := dTr (by omega)
   by_cases b : bt s (p + i) > hi
   ·rw [if_pos b]; have : decide (bt s (p + i) ≤ hi) = false := dFa (by omega)
    simp [this]
   ·rw [if_neg b]; have h2 : decide (bt s (p + i) ≤ hi) = true := dTr (by omega)
    simp [this, h2]
theorem W_in (s : ByteArray) (i lo hi : Int) (h : i < s.size) : W s i lo hi = (decide (lo ≤ bt s i) && decide (bt s i ≤ hi)) := by simp [W, h]
theorem W_out (s : ByteArray) (i lo hi : Int) (h : ¬ i < s.size) : W s i lo hi = false := by simp [W, h]
theorem curRune (s : ByteArray) (p : Int) (hs : s.size ≤ 281474976710656) (k : Nat) : cursor_Rune.f (k + 5) s p = some (runeS s p) := by
 have hb := bt_range s p
 by_cases h0 : p < 0
 ·simp [cursor_Rune.f, cursor_Rune.j0, runeS, h0]
 by_cases h1 : (s.size : Int) ≤ p
 ·simp [cursor_Rune.f, cursor_Rune.j0, runeS, h0, h1]
 have hd : decide (p ≥ (s.size : Int)) = false := dFa (by omega)
 have e1 : wrap64 ((s.size : Int) - p) = s.size - p := wr _ (by omega) (by omega)
 simp only [cursor_Rune.f, cursor_Rune.j0, hd, Bool.false_eq_true, if_false, if_neg h0, if_pos (show 0 ≤ p by omega), if_pos (show p < (s.size : Int) by omega), e1]
 simp only [runeS, if_neg h0, if_neg h1, cursor_second.f]
 have three : ∀ lo hi : Int, (if 3 > (s.size : Int) - p then some 0 else cursor_Rune.l0 (k + 4) s p lo hi 3 1) = some (if (W s (p + 1) lo hi && W s (p + 2) 128 191) = true then 3 else 0) := by
  intro lo hi
  by_cases a : p + 3 ≤ s.size
  ·rw [if_neg (by omega), show k + 4 = 2 + (k + 1) + 1 by omega, loop_eq s p 3 hs (by omega) a 2 (k + 1) lo hi 1 (by omega) (by omega)]
   simp only [ok, W_in s (p + 1) lo hi (by omega), W_in s (p + 2) 128 191 (by omega), Bool.and_true]
   rfl
  ·rw [if_pos (by omega), W_out s (p + 2) 128 191 (by omega)]; simp
 have four : ∀ lo hi : Int, (if 4 > (s.size : Int) - p then some 0 else cursor_Rune.l0 (k + 4) s p lo hi 4 1) = some (if (W s (p + 1) lo hi && (W s (p + 2) 128 191 && W s (p + 3) 128 191)) = true then 4 else 0) := by
  intro lo hi
  by_cases a : p + 4 ≤ s.size
  ·rw [if_neg (by omega), show k + 4 = 3 + k + 1 by omega, loop_eq s p 4 hs (by omega) a 3 k lo hi 1 (by omega) (by omega)]
   simp only [ok, W_in s (p + 1) lo hi (by omega), W_in s (p + 2) 128 191 (by omega), W_in s (p + 3) 128 191 (by omega), Bool.and_true]
   rfl
  ·rw [if_pos (by omega), W_out s (p + 3) 128 191 (by omega)]; simp
 have two : (if 2 > (s.size : Int) - p then some 0 else cursor_Rune.l0 (k + 4) s p 128 191 2 1) = some (if W s (p + 1) 128 191 = true then 2 else 0) := by
  by_cases a : p + 2 ≤ s.size
  ·rw [if_neg (by omega), show k + 4 = 1 + (k + 2) + 1 by omega, loop_eq s p 2 hs (by omega) a 1 (k + 2) 128 191 1 (by omega) (by omega)]
   simp only [ok, W_in s (p + 1) 128 191 (by omega), Bool.and_true]
  ·rw [if_pos (by omega), W_out s (p + 1) 128 191 (by omega)]; simp
 have zero : ∀ (lo hi : Int), (if (0 : Int) > (s.size : Int) - p then some 0 else cursor_Rune.l0 (k + 4) s p lo hi 0 1) = some 0 := by
  intro lo hi; rw [if_neg (by omega), cursor_Rune.l0, if_neg (by omega)]
 have one : ∀ (lo hi : Int), (if (1 : Int) > (s.size : Int) - p then some 0 else cursor_Rune.l0 (k + 4) s p lo hi 1 1) = some 1 := by
  intro lo hi; rw [if_neg (by omega), cursor_Rune.l0, if_neg (by omega)]
 by_cases c0 : bt s p < 128
 ·rw [if_pos c0, if_pos c0]; simpa using one 0 0
 rw [if_neg c0, if_neg c0]
 by_cases c1 : bt s p < 194
 ·rw [if_pos c1, if_pos c1]; simpa using zero 0 0
 rw [if_neg c1, if_neg c1]
 by_cases c2 : bt s p < 224
 ·rw [if_pos c2, if_pos c2]; simpa using two
 rw [if_neg c2, if_neg c2]
 by_cases c3 : bt s p = 224
 ·rw [if_pos c3, if_pos c3]; simpa using three 160 191
 rw [if_neg c3, if_neg c3]
 by_cases c4 : bt s p = 237
 ·rw [if_pos c4, if_pos c4]; simpa using three 128 159
 rw [if_neg c4, if_neg c4]
 by_cases c5 : bt s p < 240
 ·rw [if_pos c5, if_pos c5]; simpa using three 128 191
 rw [if_neg c5, if_neg c5]
 by_cases c6 : bt s p = 240
 ·rw [if_pos c6, if_pos c6]; simpa using four 144 191
 rw [if_neg c6, if_neg c6]
 by_cases c7 : bt s p < 244
 ·rw [if_pos c7, if_pos c7]; simpa using four 128 191
 rw [if_neg c7, if_neg c7]
 by_cases c8 : bt s p = 244
 ·rw [if_pos c8, if_pos c8]; simpa using four 128 143
 rw [if_neg c8, if_neg c8]; simpa using zero 0 0
theorem runeS_range (s : ByteArray) (p : Int) : 0 ≤ runeS s p ∧ runeS s p ≤ 4 := by
 unfold runeS
 repeat' split
 all_goals omega
theorem runeS_in (s : ByteArray) (p : Int) (h : runeS s p ≠ 0) : 0 ≤ p ∧ p + runeS s p ≤ s.size := by
 have hw : ∀ i lo hi, W s i lo hi = true → i < s.size := fun i lo hi hh => by
  simp only [W, Bool.and_eq_true, decide_eq_true_eq] at hh; omega
 have fin : ∀ (n : Int) (w : Bool), (w = true → 0 ≤ p ∧ p + n ≤ s.size) → (if w = true then n else 0) ≠ 0 → 0 ≤ p ∧ p + (if w = true then n else 0) ≤ s.size := fun n w h1 h2 => by
  cases w with
  | true => simpa using h1 rfl
  | false => exact absurd rfl h2
 by_cases a : p < 0
 ·simp [runeS, a] at h
 by_cases b : (s.size : Int) ≤ p
 ·simp [runeS, a, b] at h
 have h3 : ∀ lo hi, (W s (p + 1) lo hi && W s (p + 2) 128 191) = true → 0 ≤ p ∧ p + 3 ≤ s.size := fun lo hi hh => by
  simp only [Bool.and_eq_true] at hh; have := hw _ _ _ hh.2; omega
 have h4 : ∀ lo hi, (W s (p + 1) lo hi && (W s (p + 2) 128 191 && W s (p + 3) 128 191)) = true → 0 ≤ p ∧ p + 4 ≤ s.size := fun lo hi hh => by
  simp only [Bool.and_eq_true] at hh; have := hw _ _ _ hh.2.2; omega
 have h2 : W s (p + 1) 128 191 = true → 0 ≤ p ∧ p + 2 ≤ s.size := fun hh => by have := hw _ _ _ hh; omega
 revert h
 simp only [runeS, if_neg a, if_neg b]
 by_cases c0 : bt s p < 128
 ·simp only [if_pos c0]; omega
 simp only [if_neg c0]
 by_cases c1 : bt s p < 194
 ·simp only [if_pos c1]; intro h; exact absurd rfl h
 simp only [if_neg c1]
 by_cases c2 : bt s p < 224
 ·simp only [if_pos c2]; exact fin 2 _ h2
 simp only [if_neg c2]
 by_cases c3 : bt s p = 224
 ·simp only [if_pos c3]; exact fin 3 _ (h3 _ _)
 simp only [if_neg c3]
 by_cases c4 : bt s p = 237
 ·simp only [if_pos c4]; exact fin 3 _ (h3 _ _)
 simp only [if_neg c4]
 by_cases c5 : bt s p < 240
 ·simp only [if_pos c5]; exact fin 3 _ (h3 _ _)
 simp only [if_neg c5]
 by_cases c6 : bt s p = 240
 ·simp only [if_pos c6]; exact fin 4 _ (h4 _ _)
 simp only [if_neg c6]
 by_cases c7 : bt s p < 244
 ·simp only [if_pos c7]; exact fin 4 _ (h4 _ _)
 simp only [if_neg c7]
 by_cases c8 : bt s p = 244
 ·simp only [if_pos c8]; exact fin 4 _ (h4 _ _)
 simp only [if_neg c8]; intro h; exact absurd rfl h
def cnt (s : ByteArray) : Nat → Int → Option Int
 | 0, _ => none
 | f + 1, p => if p < s.size then (if runeS s p = 0 then none else (cnt s f (p + runeS s p)).map (· + 1)) else some 0
def runesS (s : ByteArray) : Int := (cnt s (s.size + 1) 0).getD (-1)
theorem cnt_range (s : ByteArray) : ∀ (f : Nat) (p r : Int), 0 ≤ p → p ≤ s.size → cnt s f p = some r → 0 ≤ r ∧ r ≤ s.size - p
 | 0, p, r, _, _, h => by simp [cnt] at h
 | f + 1, p, r, h0, h1, h => by
  simp only [cnt] at h
  split at h
  ·split at h
   ·cases h
   ·rename_i hz
    obtain ⟨q, hq, rfl⟩ := Option.map_eq_some_iff.1 h
    have := runeS_in s p hz
    have hr := runeS_range s p
    have := cnt_range s f _ q (by omega) (by omega) hq
    omega
  ·cases h; omega
def told (n : Int) : Option Int → Int
 | some r => n + r
 | none => -1
theorem told_step (n : Int) (o : Option Int) : told (n + 1) o = told n (o.map (· + 1)) := by
 cases o with
 | none => rfl
 | some r => simp only [told, Option.map_some]; omega
theorem curRunes_l (s : ByteArray) (hs : s.size ≤ 281474976710656) (k : Nat) : ∀ (f : Nat) (n p : Int), 0 ≤ p → p ≤ s.size → (s.size : Int) - p < f → 0 ≤ n → n ≤ p →
  cursor_Runes.l0 (f + k + 5) s n p = some (told n (cnt s f p))
 | 0, n, p, h0, hp, h1, hn, hn1 => by omega
 | f + 1, n, p, h0, hp, h1, hn, hn1 => by
  have hr := runeS_range s p
  rw [show f + 1 + k + 5 = (f + k + 5) + 1 by omega, cursor_Runes.l0]
  simp only [cnt]
  by_cases a : p < s.size
  ·rw [if_pos a, if_pos a, show f + k + 5 = (f + k) + 5 by omega, curRune s p hs, Option.bind_some]
   by_cases z : runeS s p = 0
   ·rw [if_pos z, if_pos z]; rfl
   ·rw [if_neg z, if_neg z]
    have hi := runeS_in s p z
    have e1 : wrap64 (n + 1) = n + 1 := wr _ (by omega) (by omega)
    have e2 : wrap64 (p + runeS s p) = p + runeS s p := wr _ (by omega) (by omega)
    rw [e1, e2, curRunes_l s hs k f (n + 1) (p + runeS s p) (by omega) (by omega) (by omega) (by omega) (by omega), told_step]
  ·rw [if_neg a, if_neg a]; simp [told]
theorem refRunes_l (s : ByteArray) (hs : s.size ≤ 281474976710656) (k : Nat) : ∀ (f : Nat) (n p : Int), 0 ≤ p → p ≤ s.size → (s.size : Int) - p < f → 0 ≤ n → n ≤ p →
  quipuref11_Runes.l0 (f + k + 8) s n p = some (told n (cnt s f p))
 | 0, n, p, h0, hp, h1, hn, hn1 => by omega
 | f + 1, n, p, h0, hp, h1, hn, hn1 => by
  have hr := runeS_range s p
  rw [show f + 1 + k + 8 = (f + k + 8) + 1 by omega, quipuref11_Runes.l0]
  simp only [cnt]
  by_cases a : p < s.size
  ·rw [if_pos a, if_pos a, show f + k + 8 = (f + k) + 8 by omega, refRune s p hs, Option.bind_some]
   by_cases z : runeS s p = 0
   ·rw [if_pos z, if_pos z]; rfl
   ·rw [if_neg z, if_neg z]
    have hi := runeS_in s p z
    have e1 : wrap64 (n + 1) = n + 1 := wr _ (by omega) (by omega)
    have e2 : wrap64 (p + runeS s p) = p + runeS s p := wr _ (by omega) (by omega)
    rw [e1, e2, refRunes_l s hs k f (n + 1) (p + runeS s p) (by omega) (by omega) (by omega) (by omega) (by omega), told_step]
  ·rw [if_neg a, if_neg a]; simp [told]
theorem runesS_told (s : ByteArray) : told 0 (cnt s (s.size + 1) 0) = runesS s := by
 unfold runesS
 cases cnt s (s.size + 1) 0 with
 | none => rfl
 | some r => simp [told]
theorem curRunes (s : ByteArray) (hs : s.size ≤ 281474976710656) (k : Nat) : cursor_Runes.f (s.size + 1 + k + 5) s = some (runesS s) := by
 rw [cursor_Runes.f, curRunes_l s hs k (s.size + 1) 0 0 (by omega) (by omega) (by omega) (by omega) (by omega), runesS_told]
theorem refRunes (s : ByteArray) (hs : s.size ≤ 281474976710656) (k : Nat) : quipuref11_Runes.f (s.size + 1 + k + 8) s = some (runesS s) := by
 rw [quipuref11_Runes.f, refRunes_l s hs k (s.size + 1) 0 0 (by omega) (by omega) (by omega) (by omega) (by omega), runesS_told]
theorem curValid (s : ByteArray) (hs : s.size ≤ 281474976710656) (k : Nat) : cursor_Valid.f (s.size + 1 + k + 5) s = some (decide (runesS s ≥ 0)) := by
 rw [cursor_Valid.f, curRunes s hs k]; rfl
theorem runesS_le (s : ByteArray) : runesS s ≤ s.size := by
 unfold runesS
 cases h : cnt s (s.size + 1) 0 with
 | none => simp
 | some r => have := cnt_range s _ 0 r (by omega) (by omega) h; simp; omega
end Go.Proofs.Ytacnjemndfmbhaa.R1
end
section
namespace Go.Proofs.Ytacnjemndfmbhaa.R1
open Go.RowKit Go.Proofs.Ytacnjemndfmbhaa.Q Go.Proofs.YtacnjemndfmbhaaW.PrintWords Go.Proofs.YtacnjemndfmbhaaW.PrintLast
set_option linter.unusedVariables false
set_option linter.unusedSimpArgs false
def sec (c : Int) : Int × Int × Int :=
 if c < 128 then (0, 0, 1) else if c < 194 then (0, 0, 0) else if c < 224 then (128, 191, 2) else if c = 224 then (160, 191, 3) else if c = 237 then (128, 159, 3)
 else if c < 240 then (128, 191, 3) else if c = 240 then (144, 191, 4) else if c < 244 then (128, 191, 4) else if c = 244 then (128, 143, 4) else (0, 0, 0)
def G (x : Int × Int × Int) (w : Int → Int → Bool) (w2 w3 : Bool) : Int :=
 if x.2.2 ≤ 1 then x.2.2 else if (w x.1 x.2.1 && ((decide (x.2.2 < 3) || w2) && (decide (x.2.2 < 4) || w3))) = true then x.2.2 else 0
theorem runeS_sec (s : ByteArray) (p : Int) (h0 : 0 ≤ p) (h1 : p < s.size) :
  runeS s p = G (sec (bt s p)) (W s (p + 1)) (W s (p + 2) 128 191) (W s (p + 3) 128 191) := by
 unfold runeS
 rw [if_neg (by omega), if_neg (by omega)]
 unfold sec
 by_cases c0 : bt s p < 128
 ·simp [c0, G]
 simp only [if_neg c0]
 by_cases c1 : bt s p < 194
 ·simp [c1, G]
 simp only [if_neg c1]
 by_cases c2 : bt s p < 224
 ·simp [c2, G]
 simp only [if_neg c2]
 by_cases c3 : bt s p = 224
 ·simp [c3, G]
 simp only [if_neg c3]
 by_cases c4 : bt s p = 237
 ·simp [c4, G]
 simp only [if_neg c4]
 by_cases c5 : bt s p < 240
 ·simp [c5, G]
 simp only [if_neg c5]
 by_cases c6 : bt s p = 240
 ·simp [c6, G]
 simp only [if_neg c6]
 by_cases c7 : bt s p < 244
 ·simp [c7, G]
 simp only [if_neg c7]
 by_cases c8 : bt s p = 244
 ·simp [c8, G]
 simp [if_neg c8, G]
theorem sec_range (c : Int) : 0 ≤ (sec c).2.2 ∧ (sec c).2.2 ≤ 4 := by
 unfold sec
 repeat' split
 all_goals decide
theorem runeS_out (s : ByteArray) (p : Int) (h : ¬ (0 ≤ p ∧ p < s.size)) : runeS s p = 0 := by
 unfold runeS
 by_cases a : p < 0
 ·rw [if_pos a]
 ·rw [if_neg a, if_pos (by omega)]
theorem runeS_mono (s t : ByteArray) (p q : Int) (h0 : 0 ≤ q) (h1 : q < t.size) (hb : bt s p = bt t q)
  (hw : ∀ j lo hi, 0 < j → W s (p + j) lo hi = true → W t (q + j) lo hi = true) (hn : runeS s p ≠ 0) : runeS t q = runeS s p := by
 have hp : 0 ≤ p ∧ p < s.size := Classical.byContradiction fun h => hn (runeS_out s p h)
 rw [runeS_sec s p hp.1 hp.2] at hn ⊢
 rw [runeS_sec t q h0 h1, ← hb]
 generalize sec (bt s p) = x at *
 unfold G at *
 by_cases c : x.2.2 ≤ 1
 ·rw [if_pos c, if_pos c]
 rw [if_neg c] at hn
 rw [if_neg c, if_neg c]
 by_cases d : (W s (p + 1) x.1 x.2.1 && ((decide (x.2.2 < 3) || W s (p + 2) 128 191) && (decide (x.2.2 < 4) || W s (p + 3) 128 191))) = true
 ·rw [if_pos d, if_pos ?_]
  simp only [Bool.and_eq_true, Bool.or_eq_true] at d ⊢
  exact ⟨hw _ _ _ (by omega) d.1, d.2.1.imp id (hw _ _ _ (by omega)), d.2.2.imp id (hw _ _ _ (by omega))⟩
 ·rw [if_neg d] at hn; exact absurd rfl hn
theorem runeS_same (s t : ByteArray) (p q : Int) (h0 : 0 ≤ q) (h1 : q < t.size) (h2 : 0 ≤ p) (h3 : p < s.size) (hb : bt s p = bt t q)
  (hw : ∀ j lo hi, 0 < j → W s (p + j) lo hi = W t (q + j) lo hi) : runeS t q = runeS s p := by
 rw [runeS_sec s p h2 h3, runeS_sec t q h0 h1, ← hb]
 unfold G
 rw [hw 1 _ _ (by omega), hw 2 _ _ (by omega), hw 3 _ _ (by omega)]
theorem size_app (a b : ByteArray) : ((a ++ b).size : Int) = a.size + b.size := aP121
theorem bt_app_left (a b : ByteArray) (i : Int) (h0 : 0 ≤ i) (h : i < a.size) : bt (a ++ b) i = bt a i := by
 have h1 : i.toNat < a.size := by omega
 have h2 : i.toNat < (a ++ b).size := aP121
 simp only [bt, h1, h2, dite_true]
 rw [ByteArray.getElem_append_left h1]
theorem bt_app_right (a b : ByteArray) (i : Int) (h0 : 0 ≤ i) : bt (a ++ b) (a.size + i) = bt b i := by
 by_cases h : i < b.size
 ·have h1 : i.toNat < b.size := by omega
  have h2 : (a.size + i : Int).toNat < (a ++ b).size := aP121
  simp only [bt, h1, h2, dite_true]
  rw [ByteArray.getElem_append_right (by omega)]
  congr 2
  have : (a.size + i : Int).toNat - a.size = i.toNat := by omega
  simp only [this]
 ·have h1 : ¬ i.toNat < b.size := by omega
  have h2 : ¬ (a.size + i : Int).toNat < (a ++ b).size := aP121
  simp only [bt, h1, h2, dite_false]
theorem W_app_left (a b : ByteArray) (i lo hi : Int) (h0 : 0 ≤ i) (h : W a i lo hi = true) : W (a ++ b) i lo hi = true := by
 have hh : i < a.size := by simp only [W, Bool.and_eq_true, decide_eq_true_eq] at h; omega
 rw [W_in a i lo hi hh] at h
 rw [W_in _ _ _ _ (by rw [size_app]; omega), bt_app_left a b i h0 hh]; exact h
theorem W_app_right (a b : ByteArray) (i lo hi : Int) (h0 : 0 ≤ i) : W (a ++ b) (a.size + i) lo hi = W b i lo hi := by
 simp only [W, bt_app_right a b i h0]
 congr 1
 rw [size_app]
 exact decide_eq_decide.mpr (by omega)
theorem runeS_app_left (a b : ByteArray) (p : Int) (h : runeS a p ≠ 0) : runeS (a ++ b) p = runeS a p := by
 have hp : 0 ≤ p ∧ p < a.size := Classical.byContradiction fun hh => h (runeS_out a p hh)
 refine runeS_mono a (a ++ b) p p hp.1 (by rw [size_app]; omega) (bt_app_left a b p hp.1 hp.2).symm (fun j lo hi hj hw => W_app_left a b _ _ _ (by omega) hw) h
theorem runeS_app_right (a b : ByteArray) (p : Int) (h0 : 0 ≤ p) (h1 : p < b.size) : runeS (a ++ b) (a.size + p) = runeS b p := by
 refine runeS_same b (a ++ b) p (a.size + p) (by omega) (by rw [size_app]; omega) h0 h1 (bt_app_right a b p h0).symm (fun j lo hi hj => ?_)
 rw [show (a.size + p + j : Int) = a.size + (p + j) by omega, W_app_right a b _ _ _ (by omega)]
theorem cnt_succ (s : ByteArray) (f : Nat) (p : Int) : cnt s (f + 1) p = if p < s.size then (if runeS s p = 0 then none else (cnt s f (p + runeS s p)).map (· + 1)) else some 0 := rfl
theorem size_cut (a : ByteArray) (i m : Int) (h0 : 0 ≤ i) (h1 : 0 ≤ m) (h2 : i + m ≤ a.size) : ((a.extract i.toNat (i + m).toNat).size : Int) = m := by
 rw [ByteArray.size_extract]; omega
theorem bt_cut (a : ByteArray) (i m q : Int) (h0 : 0 ≤ i) (h1 : 0 ≤ q) (h2 : q < m) (h3 : i + m ≤ a.size) : bt (a.extract i.toNat (i + m).toNat) q = bt a (i + q) := by
 have a1 : q.toNat < (a.extract i.toNat (i + m).toNat).size := aP99
 have a2 : (i + q).toNat < a.size := by omega
 simp only [bt, a1, a2, dite_true]
 rw [ByteArray.getElem_extract]
 have : i.toNat + q.toNat = (i + q).toNat := by omega
 simp only [this]
theorem W_cut (a : ByteArray) (i m q lo hi : Int) (h0 : 0 ≤ i) (h1 : 0 ≤ q) (h3 : i + m ≤ a.size) (hm : 0 ≤ m) : W (a.extract i.toNat (i + m).toNat) q lo hi = (decide (q < m) && W a (i + q) lo hi) := by
 by_cases h : q < m
 ·rw [W_in _ _ _ _ (by rw [size_cut a i m h0 hm h3]; exact h), bt_cut a i m q h0 h1 h h3, W_in a (i + q) lo hi (by omega)]; simp [h]
 ·rw [W_out _ _ _ _ (by rw [size_cut a i m h0 hm h3]; exact h)]; simp [h]
theorem runeS_form (s : ByteArray) (p : Int) (h : runeS s p ≠ 0) : runeS s p = (sec (bt s p)).2.2 := by
 have hp : 0 ≤ p ∧ p < s.size := Classical.byContradiction fun hh => h (runeS_out s p hh)
 rw [runeS_sec s p hp.1 hp.2] at h ⊢
 unfold G at *
 split
 ·rfl
 ·rename_i c
  rw [if_neg c] at h
  split
  ·rfl
  ·rename_i d; rw [if_neg d] at h; exact absurd rfl h
theorem runeS_cut (a : ByteArray) (i m : Int) (hz : runeS a i ≠ 0) (hm : 1 ≤ m) (hk : m ≤ runeS a i) :
  runeS (a.extract i.toNat (i + m).toNat) 0 = if m = runeS a i then m else 0 := by
 have hi := runeS_in a i hz
 have hf := runeS_form a i hz
 have hr := runeS_range a i
 rw [runeS_sec _ 0 (by omega) (by rw [size_cut a i m hi.1 (by omega) (by omega)]; omega), bt_cut a i m 0 hi.1 (by omega) (by omega) (by omega)]
 simp only [Int.zero_add, Int.add_zero]
 rw [runeS_sec a i hi.1 (by omega)] at hz
 rw [hf] at hk hr ⊢
 rw [W_cut a i m 2 _ _ hi.1 (by omega) (by omega) (by omega), W_cut a i m 3 _ _ hi.1 (by omega) (by omega) (by omega)]
 have hw1 := fun lo hi2 => W_cut a i m 1 lo hi2 hi.1 (by omega) (by omega) (by omega)
 generalize sec (bt a i) = x at *
 unfold G at *
 by_cases c : x.2.2 ≤ 1
 ·rw [if_pos c, if_pos (by omega)]; omega
 rw [if_neg c] at hz
 rw [if_neg c, hw1]
 by_cases d : (W a (i + 1) x.1 x.2.1 && ((decide (x.2.2 < 3) || W a (i + 2) 128 191) && (decide (x.2.2 < 4) || W a (i + 3) 128 191))) = true
 ·simp only [Bool.and_eq_true, Bool.or_eq_true, decide_eq_true_eq] at d ⊢
  by_cases e : m = x.2.2
  ·rw [if_pos e, if_pos ?_, e]
   refine ⟨⟨by omega, d.1⟩, ?_, ?_⟩
   ·rcases d.2.1 with h | h
    ·exact .inl h
    ·by_cases q : x.2.2 < 3
     ·exact .inl q
     ·exact .inr ⟨by omega, h⟩
   ·rcases d.2.2 with h | h
    ·exact .inl h
    ·by_cases q : x.2.2 < 4
     ·exact .inl q
     ·exact .inr ⟨by omega, h⟩
  ·rw [if_neg e, if_neg ?_]
   rintro ⟨⟨h1, _⟩, h2, h3⟩
   omega
 ·rw [if_neg d] at hz; exact absurd rfl hz
end Go.Proofs.Ytacnjemndfmbhaa.R1
end
section
namespace Go.Proofs.Ytacnjemndfmbhaa.A
open Go.RowKit Go.Proofs.Ytacnjemndfmbhaa.Q Go.Proofs.Ytacnjemndfmbhaa.R1 Go.Proofs.YtacnjemndfmbhaaW.PrintWords Go.Proofs.YtacnjemndfmbhaaW.PrintLast
set_option linter.unusedVariables false
def cut (s : ByteArray) (p : Int) : ByteArray := s.extract p.toNat (p + runeS s p).toNat
def runesF (s : ByteArray) : Nat → Int → List ByteArray × Bool
 | 0, _ => ([], false)
 | d + 1, p => if p < s.size then (if runeS s p = 0 then ([], false) else (cut s p :: (runesF s d (p + runeS s p)).1, (runesF s d (p + runeS s p)).2)) else ([], true)
theorem rune_pos (s : ByteArray) (p : Int) (h : runeS s p ≠ 0) : 1 ≤ runeS s p ∧ runeS s p ≤ 4 ∧ 0 ≤ p ∧ p + runeS s p ≤ s.size := by
 have h0 := runeS_range s p
 have h1 := runeS_in s p h
 omega
theorem runesF_fuel (s : ByteArray) : ∀ (f g : Nat) (p : Int), 0 ≤ p → p ≤ s.size → (s.size : Int) - p < f → f ≤ g → runesF s g p = runesF s f p
 | 0, g, p, h0, h1, h2, h3 => by omega
 | f + 1, g, p, h0, h1, h2, h3 => by
  obtain ⟨g', rfl⟩ : ∃ g', g = g' + 1 := ⟨g - 1, by omega⟩
  simp only [runesF]
  by_cases hlt : p < s.size
  ·rw [if_pos hlt, if_pos hlt]
   by_cases hz : runeS s p = 0
   ·rw [if_pos hz, if_pos hz]
   ·have hr := rune_pos s p hz
    rw [if_neg hz, if_neg hz, runesF_fuel s f g' (p + runeS s p) (by omega) (by omega) (by omega) (by omega)]
  ·rw [if_neg hlt, if_neg hlt]
def runesAt (s : ByteArray) (p : Int) : List ByteArray × Bool := runesF s (((s.size : Int) - p).toNat + 1) p
theorem runesAt_end (s : ByteArray) (p : Int) (h : ¬ p < s.size) : runesAt s p = ([], true) := by
 unfold runesAt
 simp only [runesF]
 rw [if_neg h]
theorem runesAt_bad (s : ByteArray) (p : Int) (h : p < s.size) (hz : runeS s p = 0) : runesAt s p = ([], false) := by
 unfold runesAt
 simp only [runesF]
 rw [if_pos h, if_pos hz]
theorem runesAt_step (s : ByteArray) (p : Int) (hz : runeS s p ≠ 0) : runesAt s p = (cut s p :: (runesAt s (p + runeS s p)).1, (runesAt s (p + runeS s p)).2) := by
 have hr := rune_pos s p hz
 have e : runesF s ((s.size : Int) - p).toNat (p + runeS s p) = runesAt s (p + runeS s p) := by
  unfold runesAt
  exact runesF_fuel s _ _ _ (by omega) (by omega) (by omega) (by omega)
 rw [← e]
 unfold runesAt
 simp only [runesF]
 rw [if_pos (by omega), if_neg hz]
theorem cut_size (s : ByteArray) (p : Int) (hz : runeS s p ≠ 0) : ((cut s p).size : Int) = runeS s p := by
 have hr := rune_pos s p hz
 exact size_cut s p (runeS s p) (by omega) (by omega) (by omega)
def IsRune (c : ByteArray) : Prop := runeS c 0 = c.size ∧ c.size ≠ 0
theorem cut_rune (s : ByteArray) (p : Int) (hz : runeS s p ≠ 0) : IsRune (cut s p) := by
 have hr := rune_pos s p hz
 have h := runeS_cut s p (runeS s p) hz (by omega) (Int.le_refl _)
 rw [if_pos rfl] at h
 have hs := cut_size s p hz
 exact ⟨by rw [hs]; exact h, by omega⟩
theorem runesAt_runes (s : ByteArray) : ∀ (d : Nat) (p : Int), 0 ≤ p → p ≤ s.size → (s.size : Int) - p ≤ d → ∀ c ∈ (runesAt s p).1, IsRune c
 | d, p, h0, h1, h2 => by
  intro c hc
  by_cases hlt : p < s.size
  ·by_cases hz : runeS s p = 0
   ·rw [runesAt_bad s p hlt hz] at hc; simp at hc
   ·have hr := rune_pos s p hz
    rw [runesAt_step s p hz] at hc
    simp only [List.mem_cons] at hc
    rcases hc with rfl | hc
    ·exact cut_rune s p hz
    ·obtain ⟨d', rfl⟩ : ∃ d', d = d' + 1 := ⟨d - 1, by omega⟩
     exact runesAt_runes s d' (p + runeS s p) (by omega) (by omega) (by omega) c hc
  ·rw [runesAt_end s p hlt] at hc; simp at hc
theorem bt_first {c : ByteArray} {b : UInt8} {r : List UInt8} (h : c.data.toList = b :: r) : bt c 0 = b.toNat ∧ (c.size : Int) = r.length + 1 := by
 have hs : c.size = r.length + 1 := by
  have := congrArg List.length h
  simpa using this
 refine ⟨?_, by omega⟩
 simp only [bt]
 have h0 : (0 : Int).toNat < c.size := by omega
 rw [dif_pos h0]
 have e : c.data.toList[(0 : Int).toNat]? = some b := by rw [h]; rfl
 rw [Array.getElem?_toList] at e
 have e2 : c.data[(0 : Int).toNat]? = some (c[(0 : Int).toNat]'h0) := by
  exact Array.getElem?_eq_getElem (by simpa using h0)
 rw [e2] at e
 injection e with e
 rw [e]
theorem list_of {c : ByteArray} (h : c.size ≠ 0) : ∃ b r, c.data.toList = b :: r := by
 cases hc : c.data.toList with
 | nil =>
  exfalso
  have := congrArg List.length hc
  rw [show c.data.toList.length = c.size by simp] at this
  exact h this
 | cons b r => exact ⟨b, r, rfl⟩
theorem rune_first {c : ByteArray} (h : IsRune c) : (∃ b, c.data.toList = [b] ∧ b.toNat < 128) ∨ ∃ b r, c.data.toList = b :: r ∧ 194 ≤ b.toNat ∧ r ≠ [] := by
 obtain ⟨h0, h1⟩ := h
 obtain ⟨b, r, e⟩ := list_of h1
 obtain ⟨e1, e2⟩ := bt_first e
 have hf := runeS_form c 0 (by omega)
 rw [e1] at hf
 have hlt : b.toNat < 256 := b.toNat_lt
 rw [h0, e2] at hf
 by_cases c1 : b.toNat < 128
 ·left
  have : (sec (b.toNat : Int)).2.2 = 1 := by unfold sec; rw [if_pos (by omega)]
  rw [this] at hf
  have : r = [] := List.eq_nil_of_length_eq_zero (by omega)
  subst this
  exact ⟨b, e, c1⟩
 ·right
  by_cases c2 : b.toNat < 194
  ·exfalso
   have : (sec (b.toNat : Int)).2.2 = 0 := by unfold sec; rw [if_neg (by omega), if_pos (by omega)]
   omega
  ·refine ⟨b, r, e, by omega, ?_⟩
   rintro rfl
   have hge : 2 ≤ (sec (b.toNat : Int)).2.2 ∨ (sec (b.toNat : Int)).2.2 = 0 := by
    unfold sec
    rw [if_neg (by omega), if_neg (by omega)]
    (repeat' split) <;> simp
   simp at hf
   omega
def LETTERS : List UInt8 := [48, 49, 50, 51, 52, 53, 54, 55, 56, 57, 35, 64, 44, 46, 59, 42]
theorem no_contains (sub : List UInt8) (b : UInt8) (r : List UInt8) (h : sub = b :: r) (L : List UInt8) (hL : b ∉ L) : Lib.contains L sub = false := by
 subst h
 have : Lib.index L (b :: r) = -1 := by
  apply Lib.index_none
  intro j _
  unfold Lib.occAt
  cases hd : L.drop j with
  | nil => rfl
  | cons x y =>
   have hx : x ∈ L := List.mem_of_mem_drop (by rw [hd]; exact List.mem_cons_self)
   have : (b == x) = false := beF (fun e => hL (e ▸ hx))
   simp [List.isPrefixOf, this]
 unfold Lib.contains
 rw [this]
 rfl
theorem bytes_of (c : ByteArray) (l : List UInt8) (h : c.data.toList = l) : c = ⟨l.toArray⟩ := by
 cases c with
 | mk d =>
  cases d with
  | mk x => subst h; rfl
theorem letter_one : ∀ n : Fin 256, quipuref13_Letter.f ⟨#[UInt8.ofNat n]⟩ = some (letB ⟨#[UInt8.ofNat n]⟩) := by decide +kernel
theorem letter_eq {c : ByteArray} (h : IsRune c) : quipuref13_Letter.f c = some (letB c) := by
 rcases rune_first h with ⟨b, e, _⟩ | ⟨b, r, e, h1, h2⟩
 ·have hc := bytes_of c _ e
  have := letter_one ⟨b.toNat, b.toNat_lt⟩
  simp only [UInt8.ofNat_toNat] at this
  rw [hc]
  exact this
 ·obtain ⟨_, e2⟩ := bt_first e
  have hr : 0 < r.length := List.length_pos_iff.2 h2
  unfold quipuref13_Letter.f
  rw [if_neg (by omega)]
  unfold letB
  rw [no_contains _ b r e _ (by
   intro hm
   have : ∀ x ∈ ([48, 49, 50, 51, 52, 53, 54, 55, 56, 57, 35, 64, 44, 46, 59, 42] : List UInt8), x.toNat < 194 := by decide
   have := this b hm
   omega)]
def kindS (c : ByteArray) : Int := if c.toList = ([45] : List UInt8) then 1 else if c.toList = ([43] : List UInt8) then 2 else if c.toList = ([37] : List UInt8) then 3 else if c.toList = ([226, 128, 176] : List UInt8) then 4 else if c.toList = ([194, 164] : List UInt8) then 5 else 0
theorem kind_eq (c : ByteArray) : affix_kind.f c = some (kindS c) := by
 unfold affix_kind.f kindS
 repeat' split
 all_goals rfl
theorem sign_eq (c : ByteArray) : quipuref13_Sign.f c = some (kindS c) := by
 unfold quipuref13_Sign.f kindS
 repeat' split
 all_goals rfl
theorem kind_range (c : ByteArray) : 0 ≤ kindS c ∧ kindS c ≤ 5 := by
 unfold kindS
 repeat' split
 all_goals decide
theorem rd_get (l : List S53) (i : Nat) (h : i < l.length) : rd_T53 l (i : Int) = l[i] := by
 show l.getD (i : Int).toNat z53 = _
 rw [Int.toNat_natCast, List.getD_eq_getElem?_getD, List.getElem?_eq_getElem h]
 rfl
def singleS (t : S53) : Bool :=
 if t.f0 = 0 then (if t.f2.toList = ([] : List UInt8) then false else if t.f1 = 0 then decide (runesS t.f2 ≥ 0) else false)
 else if t.f0 = 1 ∨ t.f0 = 2 ∨ t.f0 = 3 ∨ t.f0 = 4 then (if t.f2.toList = ([] : List UInt8) then t.f1 == 0 else false)
 else if t.f0 = 5 then (if t.f2.toList = ([] : List UInt8) then (if t.f1 ≥ 1 then decide (t.f1 ≤ 3) else false) else false)
 else false
theorem single_eq (t : S53) (K : Nat) (hK : t.f2.size + 20 ≤ K) (hs : t.f2.size ≤ 281474976710656) : affix_single.f K t.f0 t.f1 t.f2 = some (singleS t) := by
 obtain ⟨k, rfl⟩ : ∃ k, K = t.f2.size + 1 + k + 5 := ⟨K - (t.f2.size + 6), by omega⟩
 have hv := curValid t.f2 hs k
 obtain ⟨m, hm⟩ : ∃ m, t.f2.size + 1 + k + 5 = m + 1 := ⟨_, rfl⟩
 unfold affix_single.f singleS
 rw [hv, Option.bind_some]
 by_cases h0 : t.f0 = 0
 ·rw [if_pos h0, if_pos h0]
  repeat' split
  all_goals rfl
 rw [if_neg h0, if_neg h0]
 by_cases h1 : t.f0 = 1
 ·rw [if_pos h1, if_pos (.inl h1), hm, h1]
  simp only [affix_single.j0]
  rw [if_pos (by decide)]
  repeat' split
  all_goals rfl
 rw [if_neg h1]
 by_cases h2 : t.f0 = 2
 ·rw [if_pos h2, if_pos (.inr (.inl h2)), hm, h2]
  simp only [affix_single.j0]
  rw [if_pos (by decide)]
  repeat' split
  all_goals rfl
 rw [if_neg h2]
 by_cases h3 : t.f0 = 3
 ·rw [if_pos h3, if_pos (.inr (.inr (.inl h3))), hm, h3]
  simp only [affix_single.j0]
  rw [if_pos (by decide)]
  repeat' split
  all_goals rfl
 rw [if_neg h3, hm]
 simp only [affix_single.j0]
 exact aP52
theorem one_eq (t : S53) (K : Nat) (hK : t.f2.size + 20 ≤ K) (hs : t.f2.size ≤ 281474976710656) : quipuref13_one.f K t.f0 t.f1 t.f2 = some (singleS t) := by
 obtain ⟨k, rfl⟩ : ∃ k, K = t.f2.size + 1 + k + 8 := ⟨K - (t.f2.size + 9), by omega⟩
 have hv := refRunes t.f2 hs k
 obtain ⟨m, hm⟩ : ∃ m, t.f2.size + 1 + k + 8 = m + 1 := ⟨_, rfl⟩
 unfold quipuref13_one.f singleS
 rw [hv, Option.bind_some]
 by_cases h0 : t.f0 = 0
 ·rw [if_pos h0, if_pos h0]
  repeat' split
  all_goals rfl
 rw [if_neg h0, if_neg h0]
 by_cases h1 : t.f0 = 1
 ·rw [if_pos h1, if_pos (.inl h1), hm, h1]
  simp only [quipuref13_one.j0]
  rw [if_pos (by decide)]
  repeat' split
  all_goals rfl
 rw [if_neg h1]
 by_cases h2 : t.f0 = 2
 ·rw [if_pos h2, if_pos (.inr (.inl h2)), hm, h2]
  simp only [quipuref13_one.j0]
  rw [if_pos (by decide)]
  repeat' split
  all_goals rfl
 rw [if_neg h2]
 by_cases h3 : t.f0 = 3
 ·rw [if_pos h3, if_pos (.inr (.inr (.inl h3))), hm, h3]
  simp only [quipuref13_one.j0]
  rw [if_pos (by decide)]
  repeat' split
  all_goals rfl
 rw [if_neg h3, hm]
 simp only [quipuref13_one.j0]
 exact aP52
def twice (p : Option S53) (t : S53) : Bool := match p with
 | none => false
 | some q => q.f0 == t.f0 && (t.f0 == 0 || t.f0 == 5)
theorem twice_none (t : S53) : twice none t = false := rfl
theorem twice_eq (q t : S53) (h : q.f0 = t.f0) : twice (some q) t = (t.f0 == 0 || t.f0 == 5) := by
 unfold twice
 simp only [h, beq_self_eq_true, Bool.true_and]
theorem twice_ne (q t : S53) (h : q.f0 ≠ t.f0) : twice (some q) t = false := by
 unfold twice
 simp only [beF h, Bool.false_and]
def checkL (n : Nat) : Option S53 → List S53 → Int → Int
 | _, [], b => if (n : Int) > 64 then 132 else if b > 64 then 132 else 0
 | p, t :: r, b => if (twice p t || !singleS t) = true then 131 else checkL n (some t) r (wrap64 (b + t.f2.size))
def prevOf (l : List S53) (i : Nat) : Option S53 := if i = 0 then none else l[i - 1]?
def Texts (l : List S53) (N : Nat) : Prop := ∀ t ∈ l, t.f2.size ≤ N
theorem affixCheck_l (l : List S53) (N : Nat) (hN : N ≤ 281474976710656) (hl : Texts l N) (hb : l.length ≤ 4611686018427387904) (k : Nat) : ∀ (d i : Nat) (b : Int), i + d = l.length →
  affix_Check.l0 (N + 20 + k + d + 1) l b l (l.length : Int) (i : Int) = some (checkL l.length (prevOf l i) (l.drop i) b)
 | 0, i, b, hi => by
  simp only [affix_Check.l0]
  rw [if_neg (by omega), List.drop_eq_nil_of_le (by omega)]
  simp only [checkL]
  repeat' split
  all_goals rfl
 | d + 1, i, b, hi => by
  have hlt : i < l.length := by omega
  have ih := affixCheck_l l N hN hl hb k d (i + 1)
  have w1 : wrap64 ((i : Int) + 1) = ((i + 1 : Nat) : Int) := by unfold wrap64; omega
  have e1 := rd_get l i hlt
  have hs := single_eq l[i] (N + 20 + k + d + 1) (by have := hl _ (List.getElem_mem hlt); omega) (by have := hl _ (List.getElem_mem hlt); omega)
  have hp : prevOf l (i + 1) = some l[i] := by
   unfold prevOf
   rw [if_neg (by omega), Nat.add_sub_cancel, List.getElem?_eq_getElem hlt]
  rw [show N + 20 + k + (d + 1) + 1 = (N + 20 + k + d + 1) + 1 by omega]
  obtain ⟨m, hm⟩ : ∃ m, N + 20 + k + d + 1 = m := ⟨_, rfl⟩
  simp only [hm] at ih hs ⊢
  clear hm
  simp only [affix_Check.l0]
  rw [if_pos (by omega), if_pos (by omega), if_pos (by omega), e1, hs, Option.bind_some, w1, ih _ (by omega), hp, List.drop_eq_getElem_cons hlt]
  simp only [checkL]
  by_cases hz : i = 0
  ·subst hz
   rw [if_neg (by decide)]
   have : prevOf l 0 = none := rfl
   rw [this, twice_none, Bool.false_or]
   cases singleS l[0] <;> rfl
  ·have hpr : prevOf l i = some (l[i - 1]'(by omega)) := by
    unfold prevOf
    rw [if_neg hz, List.getElem?_eq_getElem (by omega)]
   have w2 : wrap64 ((i : Int) - 1) = ((i - 1 : Nat) : Int) := by unfold wrap64; omega
   rw [if_pos (by omega), w2, if_pos (by omega), if_pos (by omega), rd_get l (i - 1) (by omega), hpr]
   by_cases h : (l[i - 1]'(by omega)).f0 = l[i].f0
   ·rw [if_pos h, twice_eq _ _ h]
    by_cases h0 : l[i].f0 = 0
    ·rw [if_pos h0, beT h0]; rfl
    ·rw [if_neg h0, beF h0]
     by_cases h5 : l[i].f0 = 5
     ·rw [if_pos h5, beT h5]; rfl
     ·rw [if_neg h5, beF h5]
      cases singleS l[i] <;> rfl
   ·rw [if_neg h, twice_ne _ _ h]
    cases singleS l[i] <;> rfl
theorem refCheck_l (l : List S53) (N : Nat) (hN : N ≤ 281474976710656) (hl : Texts l N) (hb : l.length ≤ 4611686018427387904) (k : Nat) : ∀ (d i : Nat) (b : Int), i + d = l.length →
  quipuref13_Check.l0 (N + 20 + k + d + 1) l b (i : Int) = some (checkL l.length (prevOf l i) (l.drop i) b)
 | 0, i, b, hi => by
  simp only [quipuref13_Check.l0]
  rw [if_neg (by omega), List.drop_eq_nil_of_le (by omega)]
  simp only [checkL]
  repeat' split
  all_goals rfl
 | d + 1, i, b, hi => by
  have hlt : i < l.length := by omega
  have ih := refCheck_l l N hN hl hb k d (i + 1)
  have w1 : wrap64 ((i : Int) + 1) = ((i + 1 : Nat) : Int) := by unfold wrap64; omega
  have e1 := rd_get l i hlt
  have hs := one_eq l[i] (N + 20 + k + d + 1) (by have := hl _ (List.getElem_mem hlt); omega) (by have := hl _ (List.getElem_mem hlt); omega)
  have hp : prevOf l (i + 1) = some l[i] := by
   unfold prevOf
   rw [if_neg (by omega), Nat.add_sub_cancel, List.getElem?_eq_getElem hlt]
  rw [show N + 20 + k + (d + 1) + 1 = (N + 20 + k + d + 1) + 1 by omega]
  obtain ⟨m, hm⟩ : ∃ m, N + 20 + k + d + 1 = m := ⟨_, rfl⟩
  simp only [hm] at ih hs ⊢
  clear hm
  simp only [quipuref13_Check.l0]
  rw [if_pos (by omega), if_pos (by omega), e1, hs, Option.bind_some, w1, ih _ (by omega), hp, List.drop_eq_getElem_cons hlt]
  simp only [checkL]
  by_cases hz : i = 0
  ·subst hz
   rw [if_neg (show ¬ (((0 : Nat) : Int) > 0) by decide)]
   have : prevOf l 0 = none := rfl
   rw [this, twice_none, Bool.false_or]
   cases singleS l[0] <;> rfl
  ·have hpr : prevOf l i = some (l[i - 1]'(by omega)) := by
    unfold prevOf
    rw [if_neg hz, List.getElem?_eq_getElem (by omega)]
   have w2 : wrap64 ((i : Int) - 1) = ((i - 1 : Nat) : Int) := by unfold wrap64; omega
   rw [if_pos (show ((i : Int) > 0) by omega), w2, if_pos (show (0 : Int) ≤ ((i - 1 : Nat) : Int) by omega), if_pos (show (((i - 1 : Nat) : Int) < (l.length : Int)) by omega), rd_get l (i - 1) (by omega), hpr]
   cases hsg : singleS l[i]
   ·rw [if_neg (by decide), Bool.not_false, Bool.or_true, if_pos rfl]
   ·rw [if_pos rfl, Bool.not_true, Bool.or_false]
    by_cases h : (l[i - 1]'(by omega)).f0 = l[i].f0
    ·rw [twice_eq _ _ h]
     by_cases h0 : l[i].f0 = 0
     ·rw [if_pos h0, if_pos h, beT h0]; rfl
     ·rw [if_neg h0, beF h0]
      by_cases h5 : l[i].f0 = 5
      ·rw [if_pos h5, if_pos h, beT h5]; rfl
      ·rw [if_neg h5, beF h5]; rfl
    ·rw [twice_ne _ _ h, if_neg h, if_neg (show ¬ (false = true) by decide)]
     repeat' split
     all_goals rfl
def checkS (l : List S53) : Int := checkL l.length none l 0
theorem affixCheck_eq (l : List S53) (N : Nat) (hN : N ≤ 281474976710656) (hl : Texts l N) (hb : l.length ≤ 4611686018427387904) (K : Nat) (hK : N + l.length + 21 ≤ K) : affix_Check.f K l = some (checkS l) := by
 have h := affixCheck_l l N hN hl hb (K - (N + l.length + 21)) l.length 0 0 (by omega)
 rw [show N + 20 + (K - (N + l.length + 21)) + l.length + 1 = K by omega] at h
 exact h
theorem refCheck_eq (l : List S53) (N : Nat) (hN : N ≤ 281474976710656) (hl : Texts l N) (hb : l.length ≤ 4611686018427387904) (K : Nat) (hK : N + l.length + 21 ≤ K) : quipuref13_Check.f K l = some (checkS l) := by
 have h := refCheck_l l N hN hl hb (K - (N + l.length + 21)) l.length 0 0 (by omega)
 rw [show N + 20 + (K - (N + l.length + 21)) + l.length + 1 = K by omega] at h
 exact h
end Go.Proofs.Ytacnjemndfmbhaa.A
end
