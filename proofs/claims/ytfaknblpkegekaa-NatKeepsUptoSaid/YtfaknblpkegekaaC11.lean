import Derived.Test.YtfaknblpkegekaaC5
import Derived.Test.YtfaknblpkegekaaC7
import Derived.Test.YtfaknblpkegekaaC9
import Derived.Test.YtfaknblpkegekaaC10
section
namespace Go.Proofs.Ytfaknblpkegekaa.Q
open Go.RowKit Go.Proofs.YtfaknblpkegekaaW.PrintWords Go.Proofs.YtfaknblpkegekaaW.PrintLast Go.Proofs.YtfaknblpkegekaaW.PrintMore
attribute [local go_sem] max2_int min2_int max_two min_two max_three min_three max_four min_four   -- for this text's walks alone
set_option linter.unusedVariables false
set_option linter.unusedSimpArgs false

mutual
def nat_digit.j0 : Nat → List Int → List Int → Int → Int → Option (Int × List Int)
  | 0, _, _, _, _ => none
  | k + 1, x0, x1, x5, x6 => nat_digit.l0 k x0 x1 x5 x6 0 0 (wrap64 (x5 + 1)) 0
def nat_digit.l0 : Nat → List Int → List Int → Int → Int → Int → Int → Int → Int → Option (Int × List Int)
  | 0, _, _, _, _, _, _, _, _ => none
  | k + 1, x0, x1, x5, x6, x7, x8, x46, x47 => if x47 < x46 then ((nat_at.f x1 x47).bind fun t192 => ((bits_Mul64.f t192 x6).bind fun bt193 => (if 0 ≤ x47 then (if x47 < (x0.length : Int) then (if x7 ≤ 1 then (nat_digit.l0 k (x0.set (x47 : Int).toNat (sub64s (rd x0 x47) (add64s bt193.2 x8 0) x7)) x1 x5 x6 (sub64c (rd x0 x47) (add64s bt193.2 x8 0) x7) (IntKind.u64.wrap (bt193.1 + (add64c bt193.2 x8 0))) x46 (wrap64 (x47 + 1))) else (none)) else (none)) else (none)))) else (nat_digit.l1 k x0 x1 x5 x6 x7)
def nat_digit.l1 : Nat → List Int → List Int → Int → Int → Int → Option (Int × List Int)
  | 0, _, _, _, _, _ => none
  | k + 1, x0, x1, x5, x6, x7 => if x7 > 0 then (nat_digit.l2 k x0 x1 x5 (IntKind.u64.wrap (x6 - 1)) x7 0 (wrap64 (x5 + 1)) 0) else (some (x6, x0))
def nat_digit.l2 : Nat → List Int → List Int → Int → Int → Int → Int → Int → Int → Option (Int × List Int)
  | 0, _, _, _, _, _, _, _, _ => none
  | k + 1, x0, x1, x5, x6, x7, x13, x86, x87 => if x87 < x86 then (if 0 ≤ x87 then (if x87 < (x0.length : Int) then ((nat_at.f x1 x87).bind fun t198 => (if x13 ≤ 1 then (nat_digit.l2 k (x0.set (x87 : Int).toNat (add64s (rd x0 x87) t198 x13)) x1 x5 x6 x7 (add64c (rd x0 x87) t198 x13) x86 (wrap64 (x87 + 1))) else (none))) else (none)) else (none)) else (nat_digit.l1 k x0 x1 x5 x6 (IntKind.u64.wrap (x7 - x13)))
end
def nat_digit.f (k : Nat) (l0 : List Int) (l1 : List Int) : Option (Int × List Int) := if 0 ≤ (l1.length : Int) then (if (l1.length : Int) < (l0.length : Int) then (if 0 ≤ (wrap64 ((l1.length : Int) - 1)) then (if (wrap64 ((l1.length : Int) - 1)) < (l1.length : Int) then (if (rd l0 (l1.length : Int)) < (rd l1 (wrap64 ((l1.length : Int) - 1))) then (if (wrap64 ((l1.length : Int) - 1)) < (l0.length : Int) then ((bits_Div64.f k (rd l0 (l1.length : Int)) (rd l0 (wrap64 ((l1.length : Int) - 1))) (rd l1 (wrap64 ((l1.length : Int) - 1)))).bind fun bt190 => (nat_digit.j0 k l0 l1 (l1.length : Int) bt190.1)) else (none)) else (nat_digit.j0 k l0 l1 (l1.length : Int) 18446744073709551615)) else (none)) else (none)) else (none)) else (none)
theorem nat_digit.mono_l : ∀ k, (∀ y0 y1 y2 y3, LeO (nat_digit.j0 k y0 y1 y2 y3) (nat_digit.j0 (k + 1) y0 y1 y2 y3)) ∧ (∀ y0 y1 y2 y3 y4 y5 y6 y7, LeO (nat_digit.l0 k y0 y1 y2 y3 y4 y5 y6 y7) (nat_digit.l0 (k + 1) y0 y1 y2 y3 y4 y5 y6 y7)) ∧ (∀ y0 y1 y2 y3 y4, LeO (nat_digit.l1 k y0 y1 y2 y3 y4) (nat_digit.l1 (k + 1) y0 y1 y2 y3 y4)) ∧ (∀ y0 y1 y2 y3 y4 y5 y6 y7, LeO (nat_digit.l2 k y0 y1 y2 y3 y4 y5 y6 y7) (nat_digit.l2 (k + 1) y0 y1 y2 y3 y4 y5 y6 y7))
  | 0 => ⟨fun _ _ _ _ r h => by simp [nat_digit.j0] at h, fun _ _ _ _ _ _ _ _ r h => by simp [nat_digit.l0] at h, fun _ _ _ _ _ r h => by simp [nat_digit.l1] at h, fun _ _ _ _ _ _ _ _ r h => by simp [nat_digit.l2] at h⟩
  | k + 1 => by
    obtain ⟨ih0, ih1, ih2, ih3⟩ := nat_digit.mono_l k
    refine ⟨?_, ?_, ?_, ?_⟩
    · intro y0 y1 y2 y3
      unfold nat_digit.j0
      repeat' first
      | (with_reducible exact ih0 _ _ _ _)
      | (with_reducible exact ih1 _ _ _ _ _ _ _ _)
      | (with_reducible exact ih2 _ _ _ _ _)
      | (with_reducible exact ih3 _ _ _ _ _ _ _ _)
      | (with_reducible exact bits_Div64.mono _ _ _ _)
      | (with_reducible exact LeO.refl _)
      | (with_reducible exact LeO.none _)
      | (with_reducible refine LeO.ite ?_ ?_)
      | (with_reducible refine LeO.bind ?_ (fun _ => ?_))
      | exact ih0 _ _ _ _
      | exact ih1 _ _ _ _ _ _ _ _
      | exact ih2 _ _ _ _ _
      | exact ih3 _ _ _ _ _ _ _ _
      | exact bits_Div64.mono _ _ _ _
      | exact LeO.none _
      | refine LeO.ite ?_ ?_
      | refine LeO.bind ?_ (fun _ => ?_)
    · intro y0 y1 y2 y3 y4 y5 y6 y7
      unfold nat_digit.l0
      repeat' first
      | (with_reducible exact ih0 _ _ _ _)
      | (with_reducible exact ih1 _ _ _ _ _ _ _ _)
      | (with_reducible exact ih2 _ _ _ _ _)
      | (with_reducible exact ih3 _ _ _ _ _ _ _ _)
      | (with_reducible exact bits_Div64.mono _ _ _ _)
      | (with_reducible exact LeO.refl _)
      | (with_reducible exact LeO.none _)
      | (with_reducible refine LeO.ite ?_ ?_)
      | (with_reducible refine LeO.bind ?_ (fun _ => ?_))
      | exact ih0 _ _ _ _
      | exact ih1 _ _ _ _ _ _ _ _
      | exact ih2 _ _ _ _ _
      | exact ih3 _ _ _ _ _ _ _ _
      | exact bits_Div64.mono _ _ _ _
      | exact LeO.none _
      | refine LeO.ite ?_ ?_
      | refine LeO.bind ?_ (fun _ => ?_)
    · intro y0 y1 y2 y3 y4
      unfold nat_digit.l1
      repeat' first
      | (with_reducible exact ih0 _ _ _ _)
      | (with_reducible exact ih1 _ _ _ _ _ _ _ _)
      | (with_reducible exact ih2 _ _ _ _ _)
      | (with_reducible exact ih3 _ _ _ _ _ _ _ _)
      | (with_reducible exact bits_Div64.mono _ _ _ _)
      | (with_reducible exact LeO.refl _)
      | (with_reducible exact LeO.none _)
      | (with_reducible refine LeO.ite ?_ ?_)
      | (with_reducible refine LeO.bind ?_ (fun _ => ?_))
      | exact ih0 _ _ _ _
      | exact ih1 _ _ _ _ _ _ _ _
      | exact ih2 _ _ _ _ _
      | exact ih3 _ _ _ _ _ _ _ _
      | exact bits_Div64.mono _ _ _ _
      | exact LeO.none _
      | refine LeO.ite ?_ ?_
      | refine LeO.bind ?_ (fun _ => ?_)
    · intro y0 y1 y2 y3 y4 y5 y6 y7
      unfold nat_digit.l2
      repeat' first
      | (with_reducible exact ih0 _ _ _ _)
      | (with_reducible exact ih1 _ _ _ _ _ _ _ _)
      | (with_reducible exact ih2 _ _ _ _ _)
      | (with_reducible exact ih3 _ _ _ _ _ _ _ _)
      | (with_reducible exact bits_Div64.mono _ _ _ _)
      | (with_reducible exact LeO.refl _)
      | (with_reducible exact LeO.none _)
      | (with_reducible refine LeO.ite ?_ ?_)
      | (with_reducible refine LeO.bind ?_ (fun _ => ?_))
      | exact ih0 _ _ _ _
      | exact ih1 _ _ _ _ _ _ _ _
      | exact ih2 _ _ _ _ _
      | exact ih3 _ _ _ _ _ _ _ _
      | exact bits_Div64.mono _ _ _ _
      | exact LeO.none _
      | refine LeO.ite ?_ ?_
      | refine LeO.bind ?_ (fun _ => ?_)
def nat_digit.T3 : Bool × List (List Nat × List Nat) := (true, [([], []), ([], []), ([0, 1], [0, 1]), ([2], [2]), ([], []), ([], []), ([5], [5]), ([4, 6], [4, 6]), ([7], [7]), ([3, 8], [3, 8])])
def nat_digit.B3 : List Nat := [0, 0, 3, 7, 0, 0, 32, 112, 240, 511]
theorem nat_digit.tab3 : rtab .any (opsOf Try.f49 3) = nat_digit.T3 := by kernel_rfl
theorem nat_digit.bits3 : waitsOk nat_digit.T3.2 nat_digit.B3 = true := by kernel_rfl
def nat_digit.T4 : Bool × List (List Nat × List Nat) := (true, [([], []), ([], []), ([0, 1], [0, 1]), ([2], [2]), ([], []), ([], []), ([5], [5]), ([4, 6], [4, 6]), ([7], [7]), ([], []), ([], []), ([10], [10]), ([9, 11], [9, 11]), ([12], [12]), ([3, 8, 13], [3, 8, 13]), ([14], [14]), ([15], [15]), ([15], [15]), ([16, 14, 0, 1, 2, 3, 4, 5, 6, 7, 8, 9, 10, 11, 12, 13, 14, 15, 16], [16])])
def nat_digit.B4 : List Nat := [0, 0, 3, 7, 0, 0, 32, 112, 240, 0, 0, 1024, 3584, 7680, 16383, 32767, 65535, 65535, 131071]
theorem nat_digit.tab4 : rtab .any (opsOf Try.f49 4) = nat_digit.T4 := by kernel_rfl
theorem nat_digit.bits4 : waitsOk nat_digit.T4.2 nat_digit.B4 = true := by kernel_rfl
def nat_digit.T20 : Bool × List (List Nat × List Nat) := (true, [([], []), ([], []), ([], []), ([], []), ([2, 3], [2, 3]), ([4], [4]), ([], []), ([], []), ([6, 7], [6, 7]), ([], []), ([5, 8, 9, 8], [5, 8, 9]), ([10], [10]), ([11], [11]), ([11], [11]), ([0, 1, 0, 1, 2, 3, 4, 5, 6, 7, 8, 9, 10, 11, 12], [0, 1]), ([14, 12, 10, 0, 1, 2, 3, 4, 5, 6, 7, 8, 9, 10, 11, 12], [12, 14]), ([13, 15, 0, 1, 2, 3, 4, 5, 6, 7, 8, 9, 10, 11, 12, 13, 14, 15], [9, 13])])
def nat_digit.B20 : List Nat := [0, 0, 0, 0, 12, 28, 0, 0, 192, 0, 1020, 2044, 4092, 4092, 8191, 24575, 65535]
theorem nat_digit.tab20 : rtab .any (opsOf Try.f49 20) = nat_digit.T20 := by kernel_rfl
theorem nat_digit.bits20 : waitsOk nat_digit.T20.2 nat_digit.B20 = true := by kernel_rfl
set_option maxHeartbeats 8000000 in
set_option maxRecDepth 100000 in
theorem digit_win (k : Nat) (pre post : List Int) (C9 : Nat) (P0_ : Nat → Prop) (u9000_ : Value) (l0 : List Int) (A1 : Option Addr) (c1 : Nat) (l1 : List Int) (r1 : Int) (r2 : List Int) (w0 w : World) (hB : Below w0.heap.size w0 w) (ho0 : Wn pre post C9 w w0.heap.size P0_ u9000_ l0) (hr1 : ∀ W_, Kept w W_ (fun k_ => P0_ k_) → Kd.C (Kd.int .u64) W_ A1 l1.length l1) (hc1 : l1.length ≤ c1) (h : nat_digit.f k l0 l1 = some (r1, r2)) :
    Calls Try.prog 49 #[u9000_, .slice A1 l1.length c1] w fun e w' => e = .returned (.int .u64 r1) ∧ Wn pre post C9 w' w0.heap.size (fun k_ => (P0_ k_ ∨ w.heap.size ≤ k_)) u9000_ r2 ∧ Below w0.heap.size w0 w' ∧ Kept w w' (fun k_ => P0_ k_) := by
  have hin42 := run_add64_at
  have hin41 := run_sub64_at
  have HO0 := Aside0.mk (show Wn pre post C9 w w0.heap.size (fun k_ => (P0_ k_ ∨ w.heap.size ≤ k_)) u9000_ l0 from Wn_mono ho0 (fun k_ hk => (.inl hk)))
  have HR1 := Aside0.mk hr1
  have HC1 := Aside0.mk hc1
  clear hr1 hc1
  have HK := Aside0.mk (Kept.refl w (fun k_ => P0_ k_))
  have HW0 := Aside0.mk hB.size
  have HB := Aside0.mk hB
  clear hB
  have H : (if 0 ≤ (l1.length : Int) then (if (l1.length : Int) < (l0.length : Int) then (if 0 ≤ (wrap64 ((l1.length : Int) - 1)) then (if (wrap64 ((l1.length : Int) - 1)) < (l1.length : Int) then (if (rd l0 (l1.length : Int)) < (rd l1 (wrap64 ((l1.length : Int) - 1))) then (if (wrap64 ((l1.length : Int) - 1)) < (l0.length : Int) then ((bits_Div64.f k (rd l0 (l1.length : Int)) (rd l0 (wrap64 ((l1.length : Int) - 1))) (rd l1 (wrap64 ((l1.length : Int) - 1)))).bind fun bt190 => (nat_digit.j0 k l0 l1 (l1.length : Int) bt190.1)) else (none)) else (nat_digit.j0 k l0 l1 (l1.length : Int) 18446744073709551615)) else (none)) else (none)) else (none)) else (none)) = some (r1, r2) := h
  clear h
  by_cases c3 : 0 ≤ (l1.length : Int)
  · rw [if_pos c3] at H
    have c3b0 : decide (0 ≤ (l1.length : Int)) = true := decide_eq_true c3
    have c3b1 : decide (0 ≤ l1.length) = true := decide_eq_true (by omega)
    clear c3
    by_cases c4 : (l1.length : Int) < (l0.length : Int)
    · rw [if_pos c4] at H
      have c4b0 : decide ((l1.length : Int) < (l0.length : Int)) = true := decide_eq_true c4
      have c4b1 : decide (l1.length < l0.length) = true := decide_eq_true (Int.ofNat_lt.mp c4)
      clear c4
      obtain ⟨ji5, hji5⟩ : ∃ j_ : Int, (wrap64 ((l1.length : Int) - 1)) = j_ := ⟨_, rfl⟩
      replace H : (if 0 ≤ (ji5) then (if (ji5) < (l1.length : Int) then (if (rd l0 (l1.length : Int)) < (rd l1 (ji5)) then (if (ji5) < (l0.length : Int) then ((bits_Div64.f k (rd l0 (l1.length : Int)) (rd l0 (ji5)) (rd l1 (ji5))).bind fun bt190 => (nat_digit.j0 k l0 l1 (l1.length : Int) bt190.1)) else (none)) else (nat_digit.j0 k l0 l1 (l1.length : Int) 18446744073709551615)) else (none)) else (none)) = some (r1, r2) := by first | (rw [hji5] at H; exact H) | (simp only [hji5] at H ⊢; exact H)
      have hji5w : (IntKind.i64.wrap ((l1.length : Int) - 1)) = ji5 := (i64_w _).trans hji5
      by_cases c6 : 0 ≤ (ji5)
      · rw [if_pos c6] at H
        have c6b0 : decide (0 ≤ (ji5)) = true := decide_eq_true c6
        clear c6
        by_cases c7 : (ji5) < (l1.length : Int)
        · rw [if_pos c7] at H
          have c7b0 : decide ((ji5) < (l1.length : Int)) = true := decide_eq_true c7
          clear c7
          have HC8 := Aside0.mk H
          clear H
          go_enter Try.func49, Try.ntmps49
          try go_wp2
          have n0_ := Aside0.mk (Wn_drew HO0.out)
          have n1_ := Aside0.mk (Kept.drew HK.out)
          have n2_ := Aside0.mk (below_drew1 HB.out)
          clear HO0
          clear HK
          clear HB
          have HO0 := n0_
          have HK := n1_
          have HB := n2_
          clear n0_ n1_ n2_
          obtain ⟨Ao10, co10, eo10⟩ := Wn_slice HO0.out
          (first | subst eo10 | (injection eo10 with f1_ f2_ f3_; have f4_ := f1_.symm; have f5_ := f3_.symm; clear f1_ f2_ f3_; subst f4_; subst f5_))
          have p185 : 0 ≤ ((l1.length : Int) : Int) := of_decide_eq_true (by first | (with_reducible assumption) | assumption)
          have q185 : (l1.length : Int) < (l0.length : Int) := of_decide_eq_true (by first | (with_reducible assumption) | assumption)
          obtain ⟨ad185, e185, hx185_0⟩ := Kd.at_int (Wn_reads' HO0.out).2.2 (l1.length : Int) p185 q185
          cases e185
          (try simp only [Go.IntWalk.toNatUp] at hx185_0)
          replace p185 := eq_true p185
          replace q185 := eq_true q185
          have p186 : 0 ≤ ((ji5) : Int) := of_decide_eq_true (by first | (with_reducible assumption) | assumption)
          have q186 : (ji5) < (l1.length : Int) := of_decide_eq_true (by first | (with_reducible assumption) | assumption)
          obtain ⟨ad186, e186, hx186_0⟩ := Kd.at_int (Kd.C_kept_now HR1.out HK.out) (ji5) p186 q186
          have hw186_0 := hx186_0
          cases e186
          replace p186 := eq_true p186
          replace q186 := eq_true q186
          refine start_ (n := 10) (S := fun w' => w'.cell? (ad185.add ((l1.length : Int)).toNat) = some (.int .u64 (rd l0 (l1.length : Int))) ∧ w'.cell? (ad186.add ((ji5)).toNat) = some (.int .u64 (rd l1 (ji5)))) (ds := []) #[false, false, false, false, false, false, false, false, false, false] (by kernel_rfl) rfl rfl ⟨hx185_0, (Kd.foot_int (HR1.out _ (by repeat (first | exact HK.out | apply Kept.alloc | apply Kept.drewN | apply Kept.drew))) (ji5) (of_eq_true p186) (of_eq_true q186))⟩ (fun hHeld => ?_); refine with_tabW nat_digit.tab3 nat_digit.bits3 (fun HT_ HW_ => ?_)
          generalize w.drew = w9 at HO0 HK HB hx185_0 hx186_0 hHeld ⊢
          refine pure_ (i := 0) (N := some 17) (v := ?_) (a' := ?_) #[true, false, false, false, false, false, false, false, false, false] rfl rfl (any_of HT_.out (by kernel_rfl)) (fun _ _ _ h => h) (Or.inl ⟨by rfl, ?_⟩) ?_ ?_
          rotate_left
          · intro w'
            go_simp
            with_reducible rfl
          rotate_left
          · simp only [Act.put, List.setIfInBounds_toArray, List.set_cons_zero, List.set_cons_succ, i64_w, i32_w]
            rfl
          refine pure_ (i := 1) (N := some 18) (v := ?_) (a' := ?_) #[true, true, false, false, false, false, false, false, false, false] rfl rfl (any_of HT_.out (by kernel_rfl)) (fun _ _ _ h => h) (Or.inl ⟨by rfl, ?_⟩) ?_ ?_
          rotate_left
          · intro w'
            go_simp
            with_reducible rfl
          rotate_left
          · simp only [Act.put, List.setIfInBounds_toArray, List.set_cons_zero, List.set_cons_succ, i64_w, i32_w]
            rfl
          refine pure_ (i := 2) (N := some 19) (v := ?_) (a' := ?_) #[true, true, true, false, false, false, false, false, false, false] rfl rfl (any_of HT_.out (by kernel_rfl)) (fun _ _ _ h => h) (Or.inl ⟨by rfl, ?_⟩) ?_ ?_
          rotate_left
          · intro w'
            go_simp
            with_reducible rfl
          rotate_left
          · simp only [Act.put, List.setIfInBounds_toArray, List.set_cons_zero, List.set_cons_succ, i64_w, i32_w]
            rfl
          refine pure_ (i := 4) (N := some 21) (v := ?_) (a' := ?_) #[true, true, true, false, true, false, false, false, false, false] rfl rfl (any_of HT_.out (by kernel_rfl)) (fun _ _ _ h => h) (Or.inl ⟨by rfl, ?_⟩) ?_ ?_
          rotate_left
          · intro w'
            go_simp
            with_reducible rfl
          rotate_left
          · simp only [Act.put, List.setIfInBounds_toArray, List.set_cons_zero, List.set_cons_succ, i64_w, i32_w]
            rfl
          refine pure_ (i := 5) (N := some 22) (v := ?_) (a' := ?_) #[true, true, true, false, true, true, false, false, false, false] rfl rfl (any_of HT_.out (by kernel_rfl)) (fun _ _ _ h => h) (Or.inl ⟨by rfl, ?_⟩) ?_ ?_
          rotate_left
          · intro w'
            go_simp
            with_reducible rfl
          rotate_left
          · simp only [Act.put, List.setIfInBounds_toArray, List.set_cons_zero, List.set_cons_succ, i64_w, i32_w]
            rfl
          refine pure_ (i := 6) (N := some 23) (v := ?_) (a' := ?_) #[true, true, true, false, true, true, true, false, false, false] rfl rfl (any_of HT_.out (by kernel_rfl)) (fun _ _ _ h => h) (Or.inl ⟨by rfl, ?_⟩) ?_ ?_
          rotate_left
          · intro w'
            go_simp
            with_reducible rfl
          rotate_left
          · simp only [Act.put, List.setIfInBounds_toArray, List.set_cons_zero, List.set_cons_succ, i64_w, i32_w]
            rfl
          refine pure_ (i := 7) (N := some 24) (v := ?_) (a' := ?_) #[true, true, true, false, true, true, true, true, false, false] rfl rfl (any_of HT_.out (by kernel_rfl)) (fun _ _ _ h => h) (Or.inl ⟨by rfl, ?_⟩) ?_ ?_
          rotate_left
          · intro w'
            go_simp
            with_reducible rfl
          rotate_left
          · simp only [Act.put, List.setIfInBounds_toArray, List.set_cons_zero, List.set_cons_succ, i64_w, i32_w]
            rfl
          refine take_ (i := 3) (N := some 20) (v := ?_) (a' := ?_) #[true, true, true, true, true, true, true, true, false, false] rfl rfl (take_ofW HT_.out HW_.out (by kernel_rfl)) (fun _ _ _ h => h) (Or.inl ⟨by rfl, ?_⟩) hHeld ?_ ?_
          rotate_left
          · rintro w' ⟨s0, s1⟩; (try simp only [Int.toNat_natCast] at s0); (try simp only [Int.toNat_natCast] at s1)
            go_simp
            with_reducible rfl
          rotate_left
          · simp only [Act.put, List.setIfInBounds_toArray, List.set_cons_zero, List.set_cons_succ, i64_w, i32_w]
            rfl
          refine take_ (i := 8) (N := some 25) (v := ?_) (a' := ?_) #[true, true, true, true, true, true, true, true, true, false] rfl rfl (take_ofW HT_.out HW_.out (by kernel_rfl)) (fun _ _ _ h => h) (Or.inl ⟨by rfl, ?_⟩) hHeld ?_ ?_
          rotate_left
          · rintro w' ⟨s0, s1⟩; (try simp only [Int.toNat_natCast] at s0); (try simp only [Int.toNat_natCast] at s1)
            go_simp
            with_reducible rfl
          rotate_left
          · simp only [Act.put, List.setIfInBounds_toArray, List.set_cons_zero, List.set_cons_succ, i64_w, i32_w]
            rfl
          refine pure_ (i := 9) (N := some 26) (v := ?_) (a' := ?_) #[true, true, true, true, true, true, true, true, true, true] rfl rfl (any_of HT_.out (by kernel_rfl)) (fun _ _ _ h => h) (Or.inl ⟨by rfl, ?_⟩) ?_ ?_
          rotate_left
          · intro w'
            go_simp
            with_reducible rfl
          rotate_left
          · simp only [Act.put, List.setIfInBounds_toArray, List.set_cons_zero, List.set_cons_succ, i64_w, i32_w]
            rfl
          refine done_ (done_of HT_.out (by kernel_rfl)) ?_
          go_upto_if 26 with (fail)
          go_cut [6] (fun v6 wc => ∃ (kq : Nat) (x6_7 : Int), v6 = .int .u64 x6_7 ∧ Aside0 (nat_digit.j0 kq l0 l1 (l1.length : Int) x6_7 = some (r1, r2)) ∧ Aside0 (kq ≤ k) ∧ Aside0 (Wn pre post C9 wc w0.heap.size (fun k_ => (P0_ k_ ∨ w.heap.size ≤ k_)) (.slice (some ad185) l0.length co10) l0) ∧ Aside0 (Kept w wc (fun k_ => P0_ k_)) ∧ Aside0 (Below w0.heap.size w0 wc))
          case first =>
            have H := HC8.out
            clear HC8
            by_cases c11 : (rd l0 (l1.length : Int)) < (rd l1 (ji5))
            · rw [if_pos c11] at H
              have c11b0 : decide ((rd l0 (l1.length : Int)) < (rd l1 (ji5))) = true := decide_eq_true c11
              clear c11
              (first | rw [c11b0] | (simp only [i64_w, i32_w]; rw [c11b0]) | skip)
              by_cases c12 : (ji5) < (l0.length : Int)
              · rw [if_pos c12] at H
                have c12b0 : decide ((ji5) < (l0.length : Int)) = true := decide_eq_true c12
                clear c12
                replace H := Option.bind_eq_some_iff.mp H
                obtain ⟨⟨t190, t191⟩, A130, H⟩ := H
                replace H : (nat_digit.j0 k l0 l1 (l1.length : Int) t190) = some (r1, r2) := H
                have A13 := Aside0.mk A130
                clear A130
                have H' := Aside0.mk H
                clear H
                try go_wp2
                have n0_ := Aside0.mk (Wn_drew HO0.out)
                have n1_ := Aside0.mk (Kept.drew HK.out)
                have n2_ := Aside0.mk (below_drew1 HB.out)
                clear HO0
                clear HK
                clear HB
                have HO0 := n0_
                have HK := n1_
                have HB := n2_
                clear n0_ n1_ n2_
                have p187 : 0 ≤ ((l1.length : Int) : Int) := of_decide_eq_true (by first | (with_reducible assumption) | assumption)
                have q187 : (l1.length : Int) < (l0.length : Int) := of_decide_eq_true (by first | (with_reducible assumption) | assumption)
                obtain ⟨ad187, e187, hx187_0⟩ := Kd.at_int (Wn_reads' HO0.out).2.2 (l1.length : Int) p187 q187
                obtain rfl : ad185 = ad187 := (by injection e187)
                (try simp only [Go.IntWalk.toNatUp] at hx187_0)
                replace p187 := eq_true p187
                replace q187 := eq_true q187
                have p188 : 0 ≤ ((ji5) : Int) := of_decide_eq_true (by first | (with_reducible assumption) | assumption)
                have q188 : (ji5) < (l0.length : Int) := of_decide_eq_true (by first | (with_reducible assumption) | assumption)
                obtain ⟨ad188, e188, hx188_0⟩ := Kd.at_int (Wn_reads' HO0.out).2.2 (ji5) p188 q188
                obtain rfl : ad185 = ad188 := (by injection e188)
                replace p188 := eq_true p188
                replace q188 := eq_true q188
                have p189 : 0 ≤ ((ji5) : Int) := of_decide_eq_true (by first | (with_reducible assumption) | assumption)
                have q189 : (ji5) < (l1.length : Int) := of_decide_eq_true (by first | (with_reducible assumption) | assumption)
                obtain ⟨ad189, e189, hx189_0⟩ := Kd.at_int (Kd.C_kept_now HR1.out HK.out) (ji5) p189 q189
                have hw189_0 := hx189_0
                obtain rfl : ad186 = ad189 := (by injection e189)
                replace p189 := eq_true p189
                replace q189 := eq_true q189
                refine start_ (n := 19) (S := fun w' => w'.cell? (ad185.add ((l1.length : Int)).toNat) = some (.int .u64 (rd l0 (l1.length : Int))) ∧ w'.cell? (ad185.add ((ji5)).toNat) = some (.int .u64 (rd l0 (ji5))) ∧ w'.cell? (ad186.add ((ji5)).toNat) = some (.int .u64 (rd l1 (ji5)))) (ds := []) #[false, false, false, false, false, false, false, false, false, false, false, false, false, false, false, false, false, false, false] (by kernel_rfl) rfl rfl ⟨hx187_0, hx188_0, (Kd.foot_int (HR1.out _ (by repeat (first | exact HK.out | apply Kept.alloc | apply Kept.drewN | apply Kept.drew))) (ji5) (of_eq_true p189) (of_eq_true q189))⟩ (fun hHeld => ?_); refine with_tabW nat_digit.tab4 nat_digit.bits4 (fun HT_ HW_ => ?_)
                generalize w9.drew = w14 at HO0 HK HB hx187_0 hx188_0 hx189_0 hHeld ⊢
                refine pure_ (i := 0) (N := some 28) (v := ?_) (a' := ?_) #[true, false, false, false, false, false, false, false, false, false, false, false, false, false, false, false, false, false, false] rfl rfl (any_of HT_.out (by kernel_rfl)) (fun _ _ _ h => h) (Or.inl ⟨by rfl, ?_⟩) ?_ ?_
                rotate_left
                · intro w'
                  go_simp
                  with_reducible rfl
                rotate_left
                · simp only [Act.put, List.setIfInBounds_toArray, List.set_cons_zero, List.set_cons_succ, i64_w, i32_w]
                  rfl
                refine pure_ (i := 1) (N := some 29) (v := ?_) (a' := ?_) #[true, true, false, false, false, false, false, false, false, false, false, false, false, false, false, false, false, false, false] rfl rfl (any_of HT_.out (by kernel_rfl)) (fun _ _ _ h => h) (Or.inl ⟨by rfl, ?_⟩) ?_ ?_
                rotate_left
                · intro w'
                  go_simp
                  with_reducible rfl
                rotate_left
                · simp only [Act.put, List.setIfInBounds_toArray, List.set_cons_zero, List.set_cons_succ, i64_w, i32_w]
                  rfl
                refine pure_ (i := 2) (N := some 30) (v := ?_) (a' := ?_) #[true, true, true, false, false, false, false, false, false, false, false, false, false, false, false, false, false, false, false] rfl rfl (any_of HT_.out (by kernel_rfl)) (fun _ _ _ h => h) (Or.inl ⟨by rfl, ?_⟩) ?_ ?_
                rotate_left
                · intro w'
                  go_simp
                  with_reducible rfl
                rotate_left
                · simp only [Act.put, List.setIfInBounds_toArray, List.set_cons_zero, List.set_cons_succ, i64_w, i32_w]
                  rfl
                refine pure_ (i := 4) (N := some 32) (v := ?_) (a' := ?_) #[true, true, true, false, true, false, false, false, false, false, false, false, false, false, false, false, false, false, false] rfl rfl (any_of HT_.out (by kernel_rfl)) (fun _ _ _ h => h) (Or.inl ⟨by rfl, ?_⟩) ?_ ?_
                rotate_left
                · intro w'
                  go_simp
                  with_reducible rfl
                rotate_left
                · simp only [Act.put, List.setIfInBounds_toArray, List.set_cons_zero, List.set_cons_succ, i64_w, i32_w]
                  rfl
                refine pure_ (i := 5) (N := some 33) (v := ?_) (a' := ?_) #[true, true, true, false, true, true, false, false, false, false, false, false, false, false, false, false, false, false, false] rfl rfl (any_of HT_.out (by kernel_rfl)) (fun _ _ _ h => h) (Or.inl ⟨by rfl, ?_⟩) ?_ ?_
                rotate_left
                · intro w'
                  go_simp
                  with_reducible rfl
                rotate_left
                · simp only [Act.put, List.setIfInBounds_toArray, List.set_cons_zero, List.set_cons_succ, i64_w, i32_w]
                  rfl
                refine pure_ (i := 6) (N := some 34) (v := ?_) (a' := ?_) #[true, true, true, false, true, true, true, false, false, false, false, false, false, false, false, false, false, false, false] rfl rfl (any_of HT_.out (by kernel_rfl)) (fun _ _ _ h => h) (Or.inl ⟨by rfl, ?_⟩) ?_ ?_
                rotate_left
                · intro w'
                  go_simp
                  with_reducible rfl
                rotate_left
                · simp only [Act.put, List.setIfInBounds_toArray, List.set_cons_zero, List.set_cons_succ, i64_w, i32_w]
                  rfl
                refine pure_ (i := 7) (N := some 35) (v := ?_) (a' := ?_) #[true, true, true, false, true, true, true, true, false, false, false, false, false, false, false, false, false, false, false] rfl rfl (any_of HT_.out (by kernel_rfl)) (fun _ _ _ h => h) (Or.inl ⟨by rfl, ?_⟩) ?_ ?_
                rotate_left
                · intro w'
                  go_simp
                  with_reducible rfl
                rotate_left
                · simp only [Act.put, List.setIfInBounds_toArray, List.set_cons_zero, List.set_cons_succ, i64_w, i32_w]
                  rfl
                refine pure_ (i := 9) (N := some 37) (v := ?_) (a' := ?_) #[true, true, true, false, true, true, true, true, false, true, false, false, false, false, false, false, false, false, false] rfl rfl (any_of HT_.out (by kernel_rfl)) (fun _ _ _ h => h) (Or.inl ⟨by rfl, ?_⟩) ?_ ?_
                rotate_left
                · intro w'
                  go_simp
                  with_reducible rfl
                rotate_left
                · simp only [Act.put, List.setIfInBounds_toArray, List.set_cons_zero, List.set_cons_succ, i64_w, i32_w]
                  rfl
                refine pure_ (i := 10) (N := some 38) (v := ?_) (a' := ?_) #[true, true, true, false, true, true, true, true, false, true, true, false, false, false, false, false, false, false, false] rfl rfl (any_of HT_.out (by kernel_rfl)) (fun _ _ _ h => h) (Or.inl ⟨by rfl, ?_⟩) ?_ ?_
                rotate_left
                · intro w'
                  go_simp
                  with_reducible rfl
                rotate_left
                · simp only [Act.put, List.setIfInBounds_toArray, List.set_cons_zero, List.set_cons_succ, i64_w, i32_w]
                  rfl
                refine pure_ (i := 11) (N := some 39) (v := ?_) (a' := ?_) #[true, true, true, false, true, true, true, true, false, true, true, true, false, false, false, false, false, false, false] rfl rfl (any_of HT_.out (by kernel_rfl)) (fun _ _ _ h => h) (Or.inl ⟨by rfl, ?_⟩) ?_ ?_
                rotate_left
                · intro w'
                  go_simp
                  with_reducible rfl
                rotate_left
                · simp only [Act.put, List.setIfInBounds_toArray, List.set_cons_zero, List.set_cons_succ, i64_w, i32_w]
                  rfl
                refine pure_ (i := 12) (N := some 40) (v := ?_) (a' := ?_) #[true, true, true, false, true, true, true, true, false, true, true, true, true, false, false, false, false, false, false] rfl rfl (any_of HT_.out (by kernel_rfl)) (fun _ _ _ h => h) (Or.inl ⟨by rfl, ?_⟩) ?_ ?_
                rotate_left
                · intro w'
                  go_simp
                  with_reducible rfl
                rotate_left
                · simp only [Act.put, List.setIfInBounds_toArray, List.set_cons_zero, List.set_cons_succ, i64_w, i32_w]
                  rfl
                refine take_ (i := 3) (N := some 31) (v := ?_) (a' := ?_) #[true, true, true, true, true, true, true, true, false, true, true, true, true, false, false, false, false, false, false] rfl rfl (take_ofW HT_.out HW_.out (by kernel_rfl)) (fun _ _ _ h => h) (Or.inl ⟨by rfl, ?_⟩) hHeld ?_ ?_
                rotate_left
                · rintro w' ⟨s0, s1, s2⟩; (try simp only [Int.toNat_natCast] at s0); (try simp only [Int.toNat_natCast] at s1); (try simp only [Int.toNat_natCast] at s2)
                  go_simp
                  with_reducible rfl
                rotate_left
                · simp only [Act.put, List.setIfInBounds_toArray, List.set_cons_zero, List.set_cons_succ, i64_w, i32_w]
                  rfl
                refine take_ (i := 8) (N := some 36) (v := ?_) (a' := ?_) #[true, true, true, true, true, true, true, true, true, true, true, true, true, false, false, false, false, false, false] rfl rfl (take_ofW HT_.out HW_.out (by kernel_rfl)) (fun _ _ _ h => h) (Or.inl ⟨by rfl, ?_⟩) hHeld ?_ ?_
                rotate_left
                · rintro w' ⟨s0, s1, s2⟩; (try simp only [Int.toNat_natCast] at s0); (try simp only [Int.toNat_natCast] at s1); (try simp only [Int.toNat_natCast] at s2)
                  go_simp
                  with_reducible rfl
                rotate_left
                · simp only [Act.put, List.setIfInBounds_toArray, List.set_cons_zero, List.set_cons_succ, i64_w, i32_w]
                  rfl
                refine take_ (i := 13) (N := some 41) (v := ?_) (a' := ?_) #[true, true, true, true, true, true, true, true, true, true, true, true, true, true, false, false, false, false, false] rfl rfl (take_ofW HT_.out HW_.out (by kernel_rfl)) (fun _ _ _ h => h) (Or.inl ⟨by rfl, ?_⟩) hHeld ?_ ?_
                rotate_left
                · rintro w' ⟨s0, s1, s2⟩; (try simp only [Int.toNat_natCast] at s0); (try simp only [Int.toNat_natCast] at s1); (try simp only [Int.toNat_natCast] at s2)
                  go_simp
                  with_reducible rfl
                rotate_left
                · simp only [Act.put, List.setIfInBounds_toArray, List.set_cons_zero, List.set_cons_succ, i64_w, i32_w]
                  rfl
                refine one_ (i := 14) (N := some 42) #[true, true, true, true, true, true, true, true, true, true, true, true, true, true, true, false, false, false, false] rfl rfl (one_of HT_.out (by kernel_rfl)) (by decide) (fun K hK => ?_)
                refine goes_ Try.func47 (by kernel_rfl) rfl #[.int .u64 (rd l0 (l1.length : Int)), .int .u64 (rd l0 (ji5)), .int .u64 (rd l1 (ji5))] (by rfl) rfl rfl (by (try simp only [List.map_toArray, List.map_cons, List.map_nil]); first | done | (simp only [hji5]; rfl) | rfl | (simp only [List.length_drop, List.length_take]; rfl)) ?_
                with_reducible refine (bits_Div64.calls k (rd l0 (l1.length : Int)) (rd l0 (ji5)) (rd l1 (ji5)) t190 t191 _ A13.out).mono ?_
                rintro e w' ⟨rfl, ⟨nd, rfl⟩⟩
                refine ⟨_, rfl, ?_⟩
                refine hK.out _ _ ⟨hHeld.1, hHeld.2.1, (Kd.foot_int (HR1.out _ (by repeat (first | exact HK.out | apply Kept.alloc | apply Kept.drewN | apply Kept.drew))) (ji5) (of_eq_true p189) (of_eq_true q189))⟩ (fun hHeld => ?_)
                clear hK K
                refine norm_ (a' := ?_) ?_ ?_
                rotate_left
                · show Act.put _ (some 42) _ = _
                  simp only [Act.put, List.setIfInBounds_toArray, List.set_cons_zero, List.set_cons_succ, i64_w, i32_w]
                  rfl
                refine pure_ (i := 15) (N := some 27) (v := ?_) (a' := ?_) #[true, true, true, true, true, true, true, true, true, true, true, true, true, true, true, true, false, false, false] rfl rfl (any_of HT_.out (by kernel_rfl)) (fun _ _ _ h => h) (Or.inl ⟨by rfl, ?_⟩) ?_ ?_
                rotate_left
                · intro w'
                  go_simp
                  with_reducible rfl
                rotate_left
                · simp only [Act.put, List.setIfInBounds_toArray, List.set_cons_zero, List.set_cons_succ, i64_w, i32_w]
                  rfl
                refine pure_ (i := 16) (N := some 43) (v := ?_) (a' := ?_) #[true, true, true, true, true, true, true, true, true, true, true, true, true, true, true, true, true, false, false] rfl rfl (any_of HT_.out (by kernel_rfl)) (fun _ _ _ h => h) (Or.inl ⟨by rfl, ?_⟩) ?_ ?_
                rotate_left
                · intro w'
                  go_simp
                  with_reducible rfl
                rotate_left
                · simp only [Act.put, List.setIfInBounds_toArray, List.set_cons_zero, List.set_cons_succ, i64_w, i32_w]
                  rfl
                refine pure_ (i := 17) (N := some 44) (v := ?_) (a' := ?_) #[true, true, true, true, true, true, true, true, true, true, true, true, true, true, true, true, true, true, false] rfl rfl (any_of HT_.out (by kernel_rfl)) (fun _ _ _ h => h) (Or.inl ⟨by rfl, ?_⟩) ?_ ?_
                rotate_left
                · intro w'
                  go_simp
                  with_reducible rfl
                rotate_left
                · simp only [Act.put, List.setIfInBounds_toArray, List.set_cons_zero, List.set_cons_succ, i64_w, i32_w]
                  rfl
                refine pure_ (i := 18) (N := some 6) (v := ?_) (a' := ?_) #[true, true, true, true, true, true, true, true, true, true, true, true, true, true, true, true, true, true, true] rfl rfl (any_of HT_.out (by kernel_rfl)) (fun _ _ _ h => h) (Or.inl ⟨by rfl, ?_⟩) ?_ ?_
                rotate_left
                · intro w'
                  go_simp
                  with_reducible rfl
                rotate_left
                · simp only [Act.put, List.setIfInBounds_toArray, List.set_cons_zero, List.set_cons_succ, i64_w, i32_w]
                  rfl
                refine done_ (done_of HT_.out (by kernel_rfl)) ?_
                try go_wp2
                go_meet
                case rel => exact ⟨_, (t190), (by first | rfl | (simp; done) | (simp [*]; done)), H', ⟨by first | omega | exact Nat.le_refl _⟩, ⟨by (with_reducible repeat (first | apply Wn_alloc | apply Wn_drewN | apply Wn_drew)); exact HO0.out⟩, ⟨by repeat (first | (with_reducible first | exact HK.out | apply Kept.alloc | apply Kept.drewN | apply Kept.drew) | exact HK.out)⟩, ⟨by repeat (first | (with_reducible first | exact HB.out | apply below_alloc | apply pw_below_drewN | apply below_drew1) | exact HB.out)⟩⟩
              · rw [if_neg c12] at H
                exact absurd H (by simp)
            · rw [if_neg c11] at H
              have c11b0 : decide ((rd l0 (l1.length : Int)) < (rd l1 (ji5))) = false := decide_eq_false c11
              clear c11
              (first | rw [c11b0] | (simp only [i64_w, i32_w]; rw [c11b0]) | skip)
              have H' := Aside0.mk H
              clear H
              go_wp2
              go_meet
              case rel => exact ⟨_, (18446744073709551615), (by first | rfl | (simp; done) | (simp [*]; done)), H', ⟨by first | omega | exact Nat.le_refl _⟩, ⟨by (with_reducible repeat (first | apply Wn_alloc | apply Wn_drewN | apply Wn_drew)); exact HO0.out⟩, ⟨by repeat (first | (with_reducible first | exact HK.out | apply Kept.alloc | apply Kept.drewN | apply Kept.drew) | exact HK.out)⟩, ⟨by repeat (first | (with_reducible first | exact HB.out | apply below_alloc | apply pw_below_drewN | apply below_drew1) | exact HB.out)⟩⟩
          case rest =>
            clear HC8
            try clear c1
            try clear p1
            try clear q1
            try clear hx1
            try clear p2
            try clear c3
            try clear c3b0
            try clear c3b1
            try clear c4
            try clear c4b0
            try clear c4b1
            try clear c6
            try clear c6b0
            try clear p6
            try clear c7
            try clear c7b0
            try clear c11
            try clear c11b0
            try clear c12
            try clear c12b0
            try clear hx185_0
            try clear hx186_0
            try clear hx187_0
            try clear hx188_0
            try clear hx189_0
            try clear p185
            try clear p186
            try clear p187
            try clear p188
            try clear p189
            try clear q185
            try clear q186
            try clear q187
            try clear q188
            try clear q189
            obtain ⟨kq, x6_7, rfl, HA, HJ7, HO_0, HK, HB⟩ := hcut
            cases kq with
            | zero => exact absurd HA.out (by simp [nat_digit.j0])
            | succ kj7 =>
              have H := HA.out
              clear HA
              simp only [nat_digit.j0] at H
              have H' := Aside0.mk H
              clear H
              go_wp2
              go_loopg [7, 8, 47] kj7 (fun kq v7 v8 v47 w' => ∃ (x0_2 : List Int) (x7_2 : Int) (x8_2 : Int) (x47_2 : Int), v7 = .int .u64 x7_2 ∧ v8 = .int .u64 x8_2 ∧ v47 = .int .i64 x47_2 ∧ Aside0 (nat_digit.l0 kq x0_2 l1 (l1.length : Int) x6_7 x7_2 x8_2 (wrap64 ((l1.length : Int) + 1)) x47_2 = some (r1, r2)) ∧ Aside0 (kq ≤ kj7) ∧ Aside0 (Wn pre post C9 w' w0.heap.size (fun k_ => (P0_ k_ ∨ w.heap.size ≤ k_)) (.slice (some ad185) l0.length co10) x0_2) ∧ Aside0 (Kept w w' (fun k_ => P0_ k_)) ∧ Aside0 (Below w0.heap.size w0 w'))
              case atStart => exact ⟨(l0), (0), (0), (0), (by first | rfl | (simp; done) | (simp [*]; done)), (by first | rfl | (simp; done) | (simp [*]; done)), (by first | rfl | (simp; done) | (simp [*]; done)), H', ⟨Nat.le_refl _⟩, ⟨by (with_reducible repeat (first | apply Wn_alloc | apply Wn_drewN | apply Wn_drew)); exact HO_0.out⟩, ⟨by repeat (first | (with_reducible first | exact HK.out | apply Kept.alloc | apply Kept.drewN | apply Kept.drew) | exact HK.out)⟩, ⟨by repeat (first | (with_reducible first | exact HB.out | apply below_alloc | apply pw_below_drewN | apply below_drew1) | exact HB.out)⟩⟩
              case round =>
                clear H'
                try clear c1
                try clear p1
                try clear q1
                try clear hx1
                try clear p2
                try clear c3
                try clear c3b0
                try clear c3b1
                try clear c4
                try clear c4b0
                try clear c4b1
                try clear c6
                try clear c6b0
                try clear p6
                try clear c7
                try clear c7b0
                try clear c11
                try clear c11b0
                try clear c12
                try clear c12b0
                try clear hx185_0
                try clear hx186_0
                try clear hx187_0
                try clear hx188_0
                try clear hx189_0
                try clear p1
                try clear p185
                try clear p186
                try clear p187
                try clear p188
                try clear p189
                try clear p2
                try clear p6
                try clear q1
                try clear q185
                try clear q186
                try clear q187
                try clear q188
                try clear q189
                obtain ⟨x0_2, x7_2, x8_2, x47_2, rfl, rfl, rfl, HA, HK2, HO_0, HK, HB⟩ := hrel
                have hl0_2 := (Wn_reads' HO_0.out).1
                rw [hl0_2] at HO_0
                (try simp only [hl0_2])
                cases gk with
                | zero => exact absurd HA.out (by simp [nat_digit.l0])
                | succ k2 =>
                  have H := HA.out
                  clear HA
                  simp only [nat_digit.l0] at H
                  by_cases c15 : x47_2 < (wrap64 ((l1.length : Int) + 1))
                  · rw [if_pos c15] at H
                    have c15b0 : decide (x47_2 < (wrap64 ((l1.length : Int) + 1))) = true := decide_eq_true c15
                    clear c15
                    replace H := Option.bind_eq_some_iff.mp H
                    obtain ⟨t192, A160, H⟩ := H
                    replace H : ((bits_Mul64.f t192 x6_7).bind fun bt193 => (if 0 ≤ x47_2 then (if x47_2 < (x0_2.length : Int) then (if x7_2 ≤ 1 then (nat_digit.l0 k2 (x0_2.set (x47_2 : Int).toNat (sub64s (rd x0_2 x47_2) (add64s bt193.2 x8_2 0) x7_2)) l1 (l1.length : Int) x6_7 (sub64c (rd x0_2 x47_2) (add64s bt193.2 x8_2 0) x7_2) (IntKind.u64.wrap (bt193.1 + (add64c bt193.2 x8_2 0))) (wrap64 ((l1.length : Int) + 1)) (wrap64 (x47_2 + 1))) else (none)) else (none)) else (none))) = some (r1, r2) := H
                    have A16 := Aside0.mk A160
                    clear A160
                    replace H := Option.bind_eq_some_iff.mp H
                    obtain ⟨⟨t193, t194⟩, A170, H⟩ := H
                    replace H : (if 0 ≤ x47_2 then (if x47_2 < (x0_2.length : Int) then (if x7_2 ≤ 1 then (nat_digit.l0 k2 (x0_2.set (x47_2 : Int).toNat (sub64s (rd x0_2 x47_2) (add64s t194 x8_2 0) x7_2)) l1 (l1.length : Int) x6_7 (sub64c (rd x0_2 x47_2) (add64s t194 x8_2 0) x7_2) (IntKind.u64.wrap (t193 + (add64c t194 x8_2 0))) (wrap64 ((l1.length : Int) + 1)) (wrap64 (x47_2 + 1))) else (none)) else (none)) else (none)) = some (r1, r2) := H
                    have A17 := Aside0.mk A170
                    clear A170
                    by_cases c18 : 0 ≤ x47_2
                    · rw [if_pos c18] at H
                      have c18b0 : decide (0 ≤ x47_2) = true := decide_eq_true c18
                      clear c18
                      by_cases c19 : x47_2 < (x0_2.length : Int)
                      · rw [if_pos c19] at H
                        have c19b0 : decide (x47_2 < (x0_2.length : Int)) = true := decide_eq_true c19
                        clear c19
                        by_cases c20 : x7_2 ≤ 1
                        · rw [if_pos c20] at H
                          have c20b0 := eq_true c20
                          have c20b1 : decide (x7_2 ≤ 1) = true := decide_eq_true c20
                          clear c20
                          obtain ⟨y196, hy196⟩ : ∃ y_ : List Int, y_ = (x0_2.set (x47_2 : Int).toNat (sub64s (rd x0_2 x47_2) (add64s t194 x8_2 0) x7_2)) := ⟨_, rfl⟩
                          replace H : (nat_digit.l0 k2 y196 l1 (l1.length : Int) x6_7 (sub64c (rd x0_2 x47_2) (add64s t194 x8_2 0) x7_2) (IntKind.u64.wrap (t193 + (add64c t194 x8_2 0))) (wrap64 ((l1.length : Int) + 1)) (wrap64 (x47_2 + 1))) = some (r1, r2) := by first | (rw [hy196]; with_reducible exact H) | (have H2_ := (Option.bind_some _ _).symm.trans H; rw [hy196]; with_reducible exact H2_) | (have H2_ := (Option.bind_some _ _).symm.trans H; with_reducible exact H2_) | with_reducible exact H | (rw [hy196]; exact H) | exact H
                          have Ny196 := Aside0.mk hy196
                          clear hy196
                          have H' := Aside0.mk H
                          clear H
                          go_wp2_with (first | ((with_reducible refine gate_callee (f := 50) rfl ?_); refine goesL_ (some 53) rfl rfl Try.func50 (by kernel_rfl) rfl #[.slice (some ad186) l1.length c1, .int .i64 x47_2] rfl (by (try simp only [List.map_toArray, List.map_cons, List.map_nil]); first | done | rfl | (simp only [List.length_drop, List.length_take]; rfl)) ?_; (with_reducible refine (nat_at.calls _ _ l1 x47_2 t192 _ ?side1 ?side2 A16.out).mono ?_); (case side1 => exact Kd.C_kept_now HR1.out (by repeat (first | (with_reducible first | exact HK.out | apply Kept.alloc | apply Kept.drewN | apply Kept.drew) | exact HK.out))); (case side2 => exact HC1.out); rintro e w' ⟨rfl, ⟨nd, rfl⟩⟩; refine ⟨_, rfl, ?_⟩; (try (rw [drewN_self wr]; generalize hq_ : World.drewN wr _ = wr; have n0_ : Aside0 (Wn pre post C9 wr w0.heap.size (fun k_ => (P0_ k_ ∨ w.heap.size ≤ k_)) (.slice (some ad185) x0_2.length co10) x0_2) := ⟨by rw [← hq_]; exact (by (with_reducible repeat (first | apply Wn_alloc | apply Wn_drewN | apply Wn_drew)); exact HO_0.out)⟩; have n1_ : Aside0 (Kept w wr (fun k_ => P0_ k_)) := ⟨by rw [← hq_]; exact (by repeat (first | (with_reducible first | exact HK.out | apply Kept.alloc | apply Kept.drewN | apply Kept.drew) | exact HK.out))⟩; have n2_ : Aside0 (Below w0.heap.size w0 wr) := ⟨by rw [← hq_]; exact (by repeat (first | (with_reducible first | exact HB.out | apply below_alloc | apply pw_below_drewN | apply below_drew1) | exact HB.out))⟩; clear HO_0 HK HB hq_; have HO_0 := n0_; have HK := n1_; have HB := n2_; clear n0_ n1_ n2_))) | ((with_reducible refine gate_callee (f := 46) rfl ?_); refine goesL_ (some 55) rfl rfl Try.func46 (by kernel_rfl) rfl #[.int .u64 t192, .int .u64 x6_7] rfl (by (try simp only [List.map_toArray, List.map_cons, List.map_nil]); first | done | rfl | (simp only [List.length_drop, List.length_take]; rfl)) ?_; (with_reducible refine (bits_Mul64.calls t192 x6_7 t193 t194 _ A17.out).mono ?_); rintro e w' ⟨rfl, ⟨nd, rfl⟩⟩; refine ⟨_, rfl, ?_⟩; (try (rw [drewN_self wr]; generalize hq_ : World.drewN wr _ = wr; have n0_ : Aside0 (Wn pre post C9 wr w0.heap.size (fun k_ => (P0_ k_ ∨ w.heap.size ≤ k_)) (.slice (some ad185) x0_2.length co10) x0_2) := ⟨by rw [← hq_]; exact (by (with_reducible repeat (first | apply Wn_alloc | apply Wn_drewN | apply Wn_drew)); exact HO_0.out)⟩; have n1_ : Aside0 (Kept w wr (fun k_ => P0_ k_)) := ⟨by rw [← hq_]; exact (by repeat (first | (with_reducible first | exact HK.out | apply Kept.alloc | apply Kept.drewN | apply Kept.drew) | exact HK.out))⟩; have n2_ : Aside0 (Below w0.heap.size w0 wr) := ⟨by rw [← hq_]; exact (by repeat (first | (with_reducible first | exact HB.out | apply below_alloc | apply pw_below_drewN | apply below_drew1) | exact HB.out))⟩; clear HO_0 HK HB hq_; have HO_0 := n0_; have HK := n1_; have HB := n2_; clear n0_ n1_ n2_)); have p195 : 0 ≤ (x47_2 : Int) := of_decide_eq_true (by first | (with_reducible assumption) | assumption); have q195 : x47_2 < (x0_2.length : Int) := of_decide_eq_true (by first | (with_reducible assumption) | assumption); obtain ⟨ad195, e195, hx195_0⟩ := Kd.at_int (Wn_reads' HO_0.out).2.2 x47_2 p195 q195; obtain rfl : ad185 = ad195 := (by injection e195); replace p195 := eq_true p195; replace q195 := eq_true q195; have p21 : 0 ≤ (x47_2 : Int) := of_decide_eq_true (by first | (with_reducible assumption) | assumption); have q21 : (x47_2 : Int) < ((x0_2.length : Int) : Int) := of_decide_eq_true (by first | (with_reducible assumption) | assumption); obtain ⟨go21, co21, eo21, gb21, gl21, cl21, HG21⟩ := Wn_form HO_0.out (by omega); (first | cases eo21 | (injection eo21 with ea_ en_ ec_; (first | subst ea_ | (injection ea_ with ea_; subst ea_)); subst ec_; clear en_)); have GB21 := Aside0.mk gb21; have GG21 := Aside0.mk HG21; clear gb21 gl21 HG21; have HMgo21 := Aside0.mk (show (P0_ go21 ∨ w.heap.size ≤ go21) from (HO_0.out.1 _ rfl)); (first | simp only [add_win] at hx185_0 | skip); (first | simp only [add_win] at hx187_0 | skip); (first | simp only [add_win] at hx188_0 | skip); (first | simp only [add_win] at hx195_0 | skip); obtain ⟨hx21_0, hf21_0⟩ := Wn_celln 0 HO_0.out (x47_2 : Int) p21 q21; replace p21 := eq_true p21; replace q21 := eq_true q21; obtain ⟨hy22_, hz22_⟩ := Wn_celln 0 HO_0.out (x47_2 : Int) (of_decide_eq_true (by first | (with_reducible assumption) | assumption)) (of_decide_eq_true (by first | (with_reducible assumption) | assumption)); have HP22 := Wn_putg HO_0.out (x47_2 : Int) (by have h1_ := of_eq_true p21; have h2_ := of_eq_true q21; omega) (sub64s (rd x0_2 x47_2) (add64s t194 x8_2 0) x7_2)) | ((with_reducible refine gate_store (t := 46) (p := 79) rfl ?_); refine store_event (t := 46) (p := 79) (v := ?vo_w23) (w1 := (wr.setCell ⟨go21, pre.length + (x47_2 : Int).toNat, none⟩ (.int .u64 (sub64s (rd x0_2 x47_2) (add64s t194 x8_2 0) x7_2)))) ?hg ?ho ?hn ?hr ?_; (case ho => rfl); (case hg => rfl); (case hn => rfl); (case hr => first | (go_simp; done) | (go_simp; rfl)); intro w23 hw; have hg : wr.grownBy w23 (some go21) := (by rw [hw]; exact HP22.2); have hp_ : Wn pre post C9 w23 w0.heap.size (fun k_ => (P0_ k_ ∨ w.heap.size ≤ k_)) (.slice (some ⟨go21, pre.length, none⟩) x0_2.length co10) y196 := (by rw [hw, Ny196.out]; exact HP22.1); clear HP22; have n0_ := Aside0.mk (hp_); have n1_ := Aside0.mk ((by rw [hw]; exact below_set (HB.out) GB21.out : Below w0.heap.size w0 w23)); have n2_ := Aside0.mk (Kept.of_grown (S := (fun k_ => P0_ k_)) hg (by repeat (first | (with_reducible first | exact HK.out | apply Kept.alloc | apply Kept.drewN | apply Kept.drew) | exact HK.out)) (fun k_ e_ => (HO_0.out.1 k_ e_))); clear HO_0; clear HB; clear HK; have HO_0 := n0_; have HB := n1_; have HK := n2_; clear n0_ n1_ n2_; clear hg hw hp_))
                          (try simp only [← hl0_2])
                          go_roundg k2
                          case measure => have := HJ7.out; have := HK2.out; omega
                          case rel => exact ⟨(y196), (sub64c (rd x0_2 x47_2) (add64s t194 x8_2 0) x7_2), (IntKind.u64.wrap (t193 + (add64c t194 x8_2 0))), (wrap64 (x47_2 + 1)), (by first | rfl | (simp; done) | (simp [*]; done)), (by first | rfl | (simp; done) | (simp [*]; done)), (by first | rfl | (simp; done) | (simp [*]; done)), H', ⟨by have := HJ7.out; have := HK2.out; omega⟩, ⟨by (try simp only [hl0_2]); (with_reducible repeat (first | apply Wn_alloc | apply Wn_drewN | apply Wn_drew)); exact HO_0.out⟩, ⟨by repeat (first | (with_reducible first | exact HK.out | apply Kept.alloc | apply Kept.drewN | apply Kept.drew) | exact HK.out)⟩, ⟨by repeat (first | (with_reducible first | exact HB.out | apply below_alloc | apply pw_below_drewN | apply below_drew1) | exact HB.out)⟩⟩
                        · rw [if_neg c20] at H
                          exact absurd H (by simp)
                      · rw [if_neg c19] at H
                        exact absurd H (by simp)
                    · rw [if_neg c18] at H
                      exact absurd H (by simp)
                  · rw [if_neg c15] at H
                    have c15b0 : decide (x47_2 < (wrap64 ((l1.length : Int) + 1))) = false := decide_eq_false c15
                    clear c15
                    have H' := Aside0.mk H
                    clear H
                    go_wp2
                    go_loopg [6, 7] k2 (fun kq v6 v7 w' => ∃ (x0_3 : List Int) (x6_3 : Int) (x7_3 : Int), v6 = .int .u64 x6_3 ∧ v7 = .int .u64 x7_3 ∧ Aside0 (nat_digit.l1 kq x0_3 l1 (l1.length : Int) x6_3 x7_3 = some (r1, r2)) ∧ Aside0 (kq ≤ k2) ∧ Aside0 (Wn pre post C9 w' w0.heap.size (fun k_ => (P0_ k_ ∨ w.heap.size ≤ k_)) (.slice (some ad185) x0_2.length co10) x0_3) ∧ Aside0 (Kept w w' (fun k_ => P0_ k_)) ∧ Aside0 (Below w0.heap.size w0 w'))
                    case atStart => exact ⟨(x0_2), (x6_7), (x7_2), (by first | rfl | (simp; done) | (simp [*]; done)), (by first | rfl | (simp; done) | (simp [*]; done)), H', ⟨Nat.le_refl _⟩, ⟨by (try simp only [hl0_2]); (with_reducible repeat (first | apply Wn_alloc | apply Wn_drewN | apply Wn_drew)); exact HO_0.out⟩, ⟨by repeat (first | (with_reducible first | exact HK.out | apply Kept.alloc | apply Kept.drewN | apply Kept.drew) | exact HK.out)⟩, ⟨by repeat (first | (with_reducible first | exact HB.out | apply below_alloc | apply pw_below_drewN | apply below_drew1) | exact HB.out)⟩⟩
                    case round =>
                      clear H'
                      try clear c1
                      try clear p1
                      try clear q1
                      try clear hx1
                      try clear c2
                      try clear p2
                      try clear q2
                      try clear hx2
                      try clear hf2
                      try clear c3
                      try clear c3b0
                      try clear c3b1
                      try clear c4
                      try clear c4b0
                      try clear c4b1
                      try clear c5
                      try clear c6
                      try clear c6b0
                      try clear p6
                      try clear c7
                      try clear c7b0
                      try clear c11
                      try clear c11b0
                      try clear c12
                      try clear c12b0
                      try clear c15
                      try clear c15b0
                      try clear c18
                      try clear c18b0
                      try clear p18
                      try clear q18
                      try clear hx18
                      try clear c19
                      try clear c19b0
                      try clear p19
                      try clear q19
                      try clear hx19
                      try clear c20
                      try clear c20b0
                      try clear c20b1
                      try clear p21
                      try clear q21
                      try clear hx21
                      try clear hf21
                      try clear hx185_0
                      try clear hx186_0
                      try clear hx187_0
                      try clear hx188_0
                      try clear hx189_0
                      try clear hx195_0
                      try clear hx21_0
                      try clear p1
                      try clear p185
                      try clear p186
                      try clear p187
                      try clear p188
                      try clear p189
                      try clear p195
                      try clear p2
                      try clear p21
                      try clear p6
                      try clear q1
                      try clear q185
                      try clear q186
                      try clear q187
                      try clear q188
                      try clear q189
                      try clear q195
                      try clear q21
                      obtain ⟨x0_3, x6_3, x7_3, rfl, rfl, HA, HK3, HO_0, HK, HB⟩ := hrel
                      have hl0_3 := (Wn_reads' HO_0.out).1
                      rw [hl0_3] at HO_0
                      (try simp only [hl0_3])
                      cases gk with
                      | zero => exact absurd HA.out (by simp [nat_digit.l1])
                      | succ k3 =>
                        have H := HA.out
                        clear HA
                        simp only [nat_digit.l1] at H
                        by_cases c24 : x7_3 > 0
                        · rw [if_pos c24] at H
                          have c24b0 : decide (0 < x7_3) = true := decide_eq_true c24
                          clear c24
                          have H' := Aside0.mk H
                          clear H
                          go_wp2
                          go_loopg [13, 87] k3 (fun kq v13 v87 w' => ∃ (x0_4 : List Int) (x13_4 : Int) (x87_4 : Int), v13 = .int .u64 x13_4 ∧ v87 = .int .i64 x87_4 ∧ Aside0 (nat_digit.l2 kq x0_4 l1 (l1.length : Int) (IntKind.u64.wrap (x6_3 - 1)) x7_3 x13_4 (wrap64 ((l1.length : Int) + 1)) x87_4 = some (r1, r2)) ∧ Aside0 (kq ≤ k3) ∧ Aside0 (Wn pre post C9 w' w0.heap.size (fun k_ => (P0_ k_ ∨ w.heap.size ≤ k_)) (.slice (some ad185) x0_3.length co10) x0_4) ∧ Aside0 (Kept w w' (fun k_ => P0_ k_)) ∧ Aside0 (Below w0.heap.size w0 w'))
                          case atStart => exact ⟨(x0_3), (0), (0), (by first | rfl | (simp; done) | (simp [*]; done)), (by first | rfl | (simp; done) | (simp [*]; done)), H', ⟨Nat.le_refl _⟩, ⟨by (try simp only [hl0_2]); (try simp only [hl0_3]); (with_reducible repeat (first | apply Wn_alloc | apply Wn_drewN | apply Wn_drew)); exact HO_0.out⟩, ⟨by repeat (first | (with_reducible first | exact HK.out | apply Kept.alloc | apply Kept.drewN | apply Kept.drew) | exact HK.out)⟩, ⟨by repeat (first | (with_reducible first | exact HB.out | apply below_alloc | apply pw_below_drewN | apply below_drew1) | exact HB.out)⟩⟩
                          case round =>
                            clear H'
                            try clear c1
                            try clear p1
                            try clear q1
                            try clear hx1
                            try clear c2
                            try clear p2
                            try clear q2
                            try clear hx2
                            try clear hf2
                            try clear c3
                            try clear c3b0
                            try clear c3b1
                            try clear c4
                            try clear c4b0
                            try clear c4b1
                            try clear c5
                            try clear c6
                            try clear c6b0
                            try clear p6
                            try clear c7
                            try clear c7b0
                            try clear c11
                            try clear c11b0
                            try clear c12
                            try clear c12b0
                            try clear c15
                            try clear c15b0
                            try clear c18
                            try clear c18b0
                            try clear p18
                            try clear q18
                            try clear hx18
                            try clear c19
                            try clear c19b0
                            try clear p19
                            try clear q19
                            try clear hx19
                            try clear c20
                            try clear c20b0
                            try clear c20b1
                            try clear p21
                            try clear q21
                            try clear hx21
                            try clear hf21
                            try clear c24
                            try clear c24b0
                            try clear hx185_0
                            try clear hx186_0
                            try clear hx187_0
                            try clear hx188_0
                            try clear hx189_0
                            try clear hx195_0
                            try clear hx21_0
                            try clear p1
                            try clear p18
                            try clear p185
                            try clear p186
                            try clear p187
                            try clear p188
                            try clear p189
                            try clear p19
                            try clear p195
                            try clear p2
                            try clear p21
                            try clear p6
                            try clear q1
                            try clear q18
                            try clear q185
                            try clear q186
                            try clear q187
                            try clear q188
                            try clear q189
                            try clear q19
                            try clear q195
                            try clear q2
                            try clear q21
                            obtain ⟨x0_4, x13_4, x87_4, rfl, rfl, HA, HK4, HO_0, HK, HB⟩ := hrel
                            have hl0_4 := (Wn_reads' HO_0.out).1
                            rw [hl0_4] at HO_0
                            (try simp only [hl0_4])
                            cases gk with
                            | zero => exact absurd HA.out (by simp [nat_digit.l2])
                            | succ k4 =>
                              have H := HA.out
                              clear HA
                              simp only [nat_digit.l2] at H
                              by_cases c25 : x87_4 < (wrap64 ((l1.length : Int) + 1))
                              · rw [if_pos c25] at H
                                have c25b0 : decide (x87_4 < (wrap64 ((l1.length : Int) + 1))) = true := decide_eq_true c25
                                clear c25
                                by_cases c26 : 0 ≤ x87_4
                                · rw [if_pos c26] at H
                                  have c26b0 : decide (0 ≤ x87_4) = true := decide_eq_true c26
                                  clear c26
                                  by_cases c27 : x87_4 < (x0_4.length : Int)
                                  · rw [if_pos c27] at H
                                    have c27b0 : decide (x87_4 < (x0_4.length : Int)) = true := decide_eq_true c27
                                    clear c27
                                    replace H := Option.bind_eq_some_iff.mp H
                                    obtain ⟨t198, A280, H⟩ := H
                                    replace H : (if x13_4 ≤ 1 then (nat_digit.l2 k4 (x0_4.set (x87_4 : Int).toNat (add64s (rd x0_4 x87_4) t198 x13_4)) l1 (l1.length : Int) (IntKind.u64.wrap (x6_3 - 1)) x7_3 (add64c (rd x0_4 x87_4) t198 x13_4) (wrap64 ((l1.length : Int) + 1)) (wrap64 (x87_4 + 1))) else (none)) = some (r1, r2) := H
                                    have A28 := Aside0.mk A280
                                    clear A280
                                    by_cases c29 : x13_4 ≤ 1
                                    · rw [if_pos c29] at H
                                      have c29b0 := eq_true c29
                                      have c29b1 : decide (x13_4 ≤ 1) = true := decide_eq_true c29
                                      clear c29
                                      obtain ⟨y199, hy199⟩ : ∃ y_ : List Int, y_ = (x0_4.set (x87_4 : Int).toNat (add64s (rd x0_4 x87_4) t198 x13_4)) := ⟨_, rfl⟩
                                      replace H : (nat_digit.l2 k4 y199 l1 (l1.length : Int) (IntKind.u64.wrap (x6_3 - 1)) x7_3 (add64c (rd x0_4 x87_4) t198 x13_4) (wrap64 ((l1.length : Int) + 1)) (wrap64 (x87_4 + 1))) = some (r1, r2) := by first | (rw [hy199]; with_reducible exact H) | (have H2_ := (Option.bind_some _ _).symm.trans H; rw [hy199]; with_reducible exact H2_) | (have H2_ := (Option.bind_some _ _).symm.trans H; with_reducible exact H2_) | with_reducible exact H | (rw [hy199]; exact H) | exact H
                                      have Ny199 := Aside0.mk hy199
                                      clear hy199
                                      have H' := Aside0.mk H
                                      clear H
                                      try go_wp2
                                      have n0_ := Aside0.mk (Wn_drew HO_0.out)
                                      have n1_ := Aside0.mk (Kept.drew HK.out)
                                      have n2_ := Aside0.mk (below_drew1 HB.out)
                                      clear HO_0
                                      clear HK
                                      clear HB
                                      have HO_0 := n0_
                                      have HK := n1_
                                      have HB := n2_
                                      clear n0_ n1_ n2_
                                      have p197 : 0 ≤ (x87_4 : Int) := of_decide_eq_true (by first | (with_reducible assumption) | assumption)
                                      have q197 : x87_4 < (x0_4.length : Int) := of_decide_eq_true (by first | (with_reducible assumption) | assumption)
                                      obtain ⟨ad197, e197, hx197_0⟩ := Kd.at_int (Wn_reads' HO_0.out).2.2 x87_4 p197 q197
                                      obtain rfl : ad185 = ad197 := (by injection e197)
                                      replace p197 := eq_true p197
                                      replace q197 := eq_true q197
                                      refine start_ (n := 17) (S := fun w' => w'.cell? (ad185.add (x87_4).toNat) = some (.int .u64 (rd x0_4 x87_4))) (ds := [15]) #[false, false, false, false, false, false, false, false, false, false, false, false, false, false, false, false, false] (by kernel_rfl) rfl rfl (hx197_0) (fun hHeld => ?_); refine with_tabW nat_digit.tab20 nat_digit.bits20 (fun HT_ HW_ => ?_)
                                      generalize wr.drew = w31 at HO_0 HK HB hx197_0 hHeld ⊢
                                      refine pure_ (i := 0) (N := some 91) (v := ?_) (a' := ?_) #[true, false, false, false, false, false, false, false, false, false, false, false, false, false, false, false, false] rfl rfl (any_of HT_.out (by kernel_rfl)) (fun _ _ _ h => h) (Or.inl ⟨by rfl, ?_⟩) ?_ ?_
                                      rotate_left
                                      · intro w'
                                        go_simp
                                        with_reducible rfl
                                      rotate_left
                                      · simp only [Act.put, List.setIfInBounds_toArray, List.set_cons_zero, List.set_cons_succ, i64_w, i32_w]
                                        rfl
                                      refine pure_ (i := 1) (N := some 92) (v := ?_) (a' := ?_) #[true, true, false, false, false, false, false, false, false, false, false, false, false, false, false, false, false] rfl rfl (any_of HT_.out (by kernel_rfl)) (fun _ _ _ h => h) (Or.inl ⟨by rfl, ?_⟩) ?_ ?_
                                      rotate_left
                                      · intro w'
                                        go_simp
                                        with_reducible rfl
                                      rotate_left
                                      · simp only [Act.put, List.setIfInBounds_toArray, List.set_cons_zero, List.set_cons_succ, i64_w, i32_w]
                                        rfl
                                      refine pure_ (i := 2) (N := some 93) (v := ?_) (a' := ?_) #[true, true, true, false, false, false, false, false, false, false, false, false, false, false, false, false, false] rfl rfl (any_of HT_.out (by kernel_rfl)) (fun _ _ _ h => h) (Or.inl ⟨by rfl, ?_⟩) ?_ ?_
                                      rotate_left
                                      · intro w'
                                        go_simp
                                        with_reducible rfl
                                      rotate_left
                                      · simp only [Act.put, List.setIfInBounds_toArray, List.set_cons_zero, List.set_cons_succ, i64_w, i32_w]
                                        rfl
                                      refine pure_ (i := 3) (N := some 94) (v := ?_) (a' := ?_) #[true, true, true, true, false, false, false, false, false, false, false, false, false, false, false, false, false] rfl rfl (any_of HT_.out (by kernel_rfl)) (fun _ _ _ h => h) (Or.inl ⟨by rfl, ?_⟩) ?_ ?_
                                      rotate_left
                                      · intro w'
                                        go_simp
                                        with_reducible rfl
                                      rotate_left
                                      · simp only [Act.put, List.setIfInBounds_toArray, List.set_cons_zero, List.set_cons_succ, i64_w, i32_w]
                                        rfl
                                      refine pure_ (i := 4) (N := some 95) (v := ?_) (a' := ?_) #[true, true, true, true, true, false, false, false, false, false, false, false, false, false, false, false, false] rfl rfl (any_of HT_.out (by kernel_rfl)) (fun _ _ _ h => h) (Or.inl ⟨by rfl, ?_⟩) ?_ ?_
                                      rotate_left
                                      · intro w'
                                        go_simp
                                        with_reducible rfl
                                      rotate_left
                                      · simp only [Act.put, List.setIfInBounds_toArray, List.set_cons_zero, List.set_cons_succ, i64_w, i32_w]
                                        rfl
                                      refine pure_ (i := 6) (N := some 97) (v := ?_) (a' := ?_) #[true, true, true, true, true, false, true, false, false, false, false, false, false, false, false, false, false] rfl rfl (any_of HT_.out (by kernel_rfl)) (fun _ _ _ h => h) (Or.inl ⟨by rfl, ?_⟩) ?_ ?_
                                      rotate_left
                                      · intro w'
                                        go_simp
                                        with_reducible rfl
                                      rotate_left
                                      · simp only [Act.put, List.setIfInBounds_toArray, List.set_cons_zero, List.set_cons_succ, i64_w, i32_w]
                                        rfl
                                      refine pure_ (i := 7) (N := some 98) (v := ?_) (a' := ?_) #[true, true, true, true, true, false, true, true, false, false, false, false, false, false, false, false, false] rfl rfl (any_of HT_.out (by kernel_rfl)) (fun _ _ _ h => h) (Or.inl ⟨by rfl, ?_⟩) ?_ ?_
                                      rotate_left
                                      · intro w'
                                        go_simp
                                        with_reducible rfl
                                      rotate_left
                                      · simp only [Act.put, List.setIfInBounds_toArray, List.set_cons_zero, List.set_cons_succ, i64_w, i32_w]
                                        rfl
                                      refine pure_ (i := 9) (N := some 100) (v := ?_) (a' := ?_) #[true, true, true, true, true, false, true, true, false, true, false, false, false, false, false, false, false] rfl rfl (any_of HT_.out (by kernel_rfl)) (fun _ _ _ h => h) (Or.inl ⟨by rfl, ?_⟩) ?_ ?_
                                      rotate_left
                                      · intro w'
                                        go_simp
                                        with_reducible rfl
                                      rotate_left
                                      · simp only [Act.put, List.setIfInBounds_toArray, List.set_cons_zero, List.set_cons_succ, i64_w, i32_w]
                                        rfl
                                      refine take_ (i := 5) (N := some 96) (v := ?_) (a' := ?_) #[true, true, true, true, true, true, true, true, false, true, false, false, false, false, false, false, false] rfl rfl (take_ofW HT_.out HW_.out (by kernel_rfl)) (fun _ _ _ h => h) (Or.inl ⟨by rfl, ?_⟩) hHeld ?_ ?_
                                      rotate_left
                                      · intro w' s0
                                        go_simp
                                        with_reducible rfl
                                      rotate_left
                                      · simp only [Act.put, List.setIfInBounds_toArray, List.set_cons_zero, List.set_cons_succ, i64_w, i32_w]
                                        rfl
                                      refine one_ (i := 8) (N := some 99) #[true, true, true, true, true, true, true, true, true, true, false, false, false, false, false, false, false] rfl rfl (one_of HT_.out (by kernel_rfl)) (by decide) (fun K hK => ?_)
                                      refine goes_ Try.func50 (by kernel_rfl) rfl #[.slice (some ad186) l1.length c1, .int .i64 x87_4] (by rfl) rfl rfl (by (try simp only [List.map_toArray, List.map_cons, List.map_nil]); first | done | rfl | (simp only [List.length_drop, List.length_take]; rfl)) ?_
                                      with_reducible refine (nat_at.calls _ _ l1 x87_4 t198 _ ?side1 ?side2 A28.out).mono ?_
                                      (case side1 => exact Kd.C_kept_now HR1.out (by repeat (first | (with_reducible first | exact HK.out | apply Kept.alloc | apply Kept.drewN | apply Kept.drew) | exact HK.out)))
                                      (case side2 => exact HC1.out)
                                      rintro e w' ⟨rfl, ⟨nd, rfl⟩⟩
                                      refine ⟨_, rfl, ?_⟩
                                      have p30 : 0 ≤ (x87_4 : Int) := of_decide_eq_true (by first | (with_reducible assumption) | assumption)
                                      have q30 : (x87_4 : Int) < ((x0_4.length : Int) : Int) := of_decide_eq_true (by first | (with_reducible assumption) | assumption)
                                      obtain ⟨go30, co30, eo30, gb30, gl30, cl30, HG30⟩ := Wn_form HO_0.out (by omega)
                                      (first | cases eo30 | (injection eo30 with ea_ en_ ec_; (first | subst ea_ | (injection ea_ with ea_; subst ea_)); subst ec_; clear en_))
                                      have GB30 := Aside0.mk gb30
                                      have GG30 := Aside0.mk HG30
                                      clear gb30 gl30 HG30
                                      have HMgo30 := Aside0.mk (show (P0_ go30 ∨ w.heap.size ≤ go30) from (HO_0.out.1 _ rfl))
                                      (first | simp only [add_win] at hx197_0 | skip)
                                      obtain ⟨hx30_0, hf30_0⟩ := Wn_celln 0 HO_0.out (x87_4 : Int) p30 q30
                                      replace p30 := eq_true p30
                                      replace q30 := eq_true q30
                                      have HP32 := (Wn_putg HO_0.out (x87_4 : Int) (by have h1_ := of_eq_true p30; have h2_ := of_eq_true q30; omega) (add64s (rd x0_4 x87_4) t198 x13_4)).1
                                      rw [← Ny199.out] at HP32
                                      have HQ32 := Aside0.mk HP32
                                      clear HP32
                                      refine hK.out _ _ (hHeld) (fun hHeld => ?_)
                                      clear hK K
                                      refine norm_ (a' := ?_) ?_ ?_
                                      rotate_left
                                      · show Act.put _ (some 99) _ = _
                                        simp only [Act.put, List.setIfInBounds_toArray, List.set_cons_zero, List.set_cons_succ, i64_w, i32_w]
                                        rfl
                                      refine pure_ (i := 10) (N := some 101) (v := ?_) (a' := ?_) #[true, true, true, true, true, true, true, true, true, true, true, false, false, false, false, false, false] rfl rfl (any_of HT_.out (by kernel_rfl)) (fun _ _ _ h => h) (Or.inl ⟨by rfl, ?_⟩) ?_ ?_
                                      rotate_left
                                      · intro w'
                                        go_simp
                                        with_reducible rfl
                                      rotate_left
                                      · simp only [Act.put, List.setIfInBounds_toArray, List.set_cons_zero, List.set_cons_succ, i64_w, i32_w]
                                        rfl
                                      refine pure_ (i := 11) (N := some 90) (v := ?_) (a' := ?_) #[true, true, true, true, true, true, true, true, true, true, true, true, false, false, false, false, false] rfl rfl (any_of HT_.out (by kernel_rfl)) (fun _ _ _ h => h) (Or.inl ⟨by rfl, ?_⟩) ?_ ?_
                                      rotate_left
                                      · intro w'
                                        go_simp
                                        with_reducible rfl
                                      rotate_left
                                      · simp only [Act.put, List.setIfInBounds_toArray, List.set_cons_zero, List.set_cons_succ, i64_w, i32_w]
                                        rfl
                                      refine pure_ (i := 12) (N := some 102) (v := ?_) (a' := ?_) #[true, true, true, true, true, true, true, true, true, true, true, true, true, false, false, false, false] rfl rfl (any_of HT_.out (by kernel_rfl)) (fun _ _ _ h => h) (Or.inl ⟨by rfl, ?_⟩) ?_ ?_
                                      rotate_left
                                      · intro w'
                                        go_simp
                                        with_reducible rfl
                                      rotate_left
                                      · simp only [Act.put, List.setIfInBounds_toArray, List.set_cons_zero, List.set_cons_succ, i64_w, i32_w]
                                        rfl
                                      refine pure_ (i := 13) (N := some 103) (v := ?_) (a' := ?_) #[true, true, true, true, true, true, true, true, true, true, true, true, true, true, false, false, false] rfl rfl (any_of HT_.out (by kernel_rfl)) (fun _ _ _ h => h) (Or.inl ⟨by rfl, ?_⟩) ?_ ?_
                                      rotate_left
                                      · intro w'
                                        go_simp
                                        with_reducible rfl
                                      rotate_left
                                      · simp only [Act.put, List.setIfInBounds_toArray, List.set_cons_zero, List.set_cons_succ, i64_w, i32_w]
                                        rfl
                                      refine pure_ (i := 14) (N := some 104) (v := ?_) (a' := ?_) #[true, true, true, true, true, true, true, true, true, true, true, true, true, true, true, false, false] rfl rfl (any_of HT_.out (by kernel_rfl)) (fun _ _ _ h => h) (Or.inl ⟨by rfl, ?_⟩) ?_ ?_
                                      rotate_left
                                      · intro w'
                                        go_simp
                                        with_reducible rfl
                                      rotate_left
                                      · simp only [Act.put, List.setIfInBounds_toArray, List.set_cons_zero, List.set_cons_succ, i64_w, i32_w]
                                        rfl
                                      refine last_ (i := 15) (N := none) #[true, true, true, true, true, true, true, true, true, true, true, true, true, true, true, true, false] rfl rfl (one_of HT_.out (by kernel_rfl)) (by decide) (fun K hK => ?_)
                                      refine skip_ (w1 := ?_) (by rfl) rfl ?_ ?_
                                      rotate_left
                                      · go_simp
                                        rfl
                                      refine hK.out _ _ ?_
                                      clear hK K
                                      refine pure_ (i := 16) (N := some 13) (v := ?_) (a' := ?_) #[true, true, true, true, true, true, true, true, true, true, true, true, true, true, true, true, true] rfl rfl (any_of HT_.out (by kernel_rfl)) (fun _ _ _ h => h) (Or.inl ⟨by rfl, ?_⟩) ?_ ?_
                                      rotate_left
                                      · intro w'
                                        go_simp
                                        with_reducible rfl
                                      rotate_left
                                      · simp only [Act.put, List.setIfInBounds_toArray, List.set_cons_zero, List.set_cons_succ, i64_w, i32_w]
                                        rfl
                                      refine done_ (done_of HT_.out (by kernel_rfl)) ?_
                                      try go_wp2
                                      (try simp only [← hl0_4])
                                      go_roundg k4
                                      case measure => have := HJ7.out; have := HK2.out; have := HK3.out; have := HK4.out; omega
                                      case rel => exact ⟨(y199), (add64c (rd x0_4 x87_4) t198 x13_4), (wrap64 (x87_4 + 1)), (by first | rfl | (simp; done) | (simp [*]; done)), (by first | rfl | (simp; done) | (simp [*]; done)), H', ⟨by have := HJ7.out; have := HK2.out; have := HK3.out; have := HK4.out; omega⟩, ⟨by (try simp only [hl0_2]); (try simp only [hl0_3]); (try simp only [hl0_4]); (with_reducible repeat (first | apply Wn_alloc | apply Wn_drewN | apply Wn_drew)); exact HQ32.out⟩, ⟨by repeat (first | (with_reducible first | exact HK.out | apply Kept.alloc | apply Kept.drewN | apply Kept.drew | refine Kept.setCell ?_ HMgo30.out _) | exact HK.out)⟩, ⟨by repeat (first | (with_reducible first | exact HB.out | apply below_alloc | apply pw_below_drewN | apply below_drew1 | refine below_set ?_ GB30.out) | exact HB.out)⟩⟩
                                    · rw [if_neg c29] at H
                                      exact absurd H (by simp)
                                  · rw [if_neg c27] at H
                                    exact absurd H (by simp)
                                · rw [if_neg c26] at H
                                  exact absurd H (by simp)
                              · rw [if_neg c25] at H
                                have c25b0 : decide (x87_4 < (wrap64 ((l1.length : Int) + 1))) = false := decide_eq_false c25
                                clear c25
                                have H' := Aside0.mk H
                                clear H
                                go_wp2
                                (try simp only [← hl0_3, ← hl0_4])
                                go_roundg k4
                                case measure => have := HJ7.out; have := HK2.out; have := HK3.out; have := HK4.out; omega
                                case rel => exact ⟨(x0_4), ((IntKind.u64.wrap (x6_3 - 1))), (IntKind.u64.wrap (x7_3 - x13_4)), (by first | rfl | (simp; done) | (simp [*]; done)), (by first | rfl | (simp; done) | (simp [*]; done)), H', ⟨by have := HJ7.out; have := HK2.out; have := HK3.out; have := HK4.out; omega⟩, ⟨by (try simp only [hl0_2]); (try simp only [hl0_3]); (try simp only [hl0_4]); (with_reducible repeat (first | apply Wn_alloc | apply Wn_drewN | apply Wn_drew)); exact HO_0.out⟩, ⟨by repeat (first | (with_reducible first | exact HK.out | apply Kept.alloc | apply Kept.drewN | apply Kept.drew) | exact HK.out)⟩, ⟨by repeat (first | (with_reducible first | exact HB.out | apply below_alloc | apply pw_below_drewN | apply below_drew1) | exact HB.out)⟩⟩
                        · rw [if_neg c24] at H
                          have c24b0 : decide (0 < x7_3) = false := decide_eq_false c24
                          clear c24
                          simp only [Option.some.injEq, Prod.mk.injEq] at H
                          obtain ⟨rfl, rfl⟩ := H
                          go_wp2
                          go_ret
                          exact ⟨by first | rfl | (simp [errW_none, errW_some] <;> rfl) | (simp only [← hji5]; first | rfl | (simp [errW_none, errW_some] <;> rfl)) | (simp [*, errW_none, errW_some] <;> rfl), (by first | exact (by (with_reducible repeat (first | apply Wn_alloc | apply Wn_drewN | apply Wn_drew)); exact HO_0.out) | (simp only [hl0_2, hl0_3]; exact (by (with_reducible repeat (first | apply Wn_alloc | apply Wn_drewN | apply Wn_drew)); exact HO_0.out))), by repeat (first | (with_reducible first | exact HB.out | apply below_alloc | apply pw_below_drewN | apply below_drew1) | exact HB.out), by repeat (first | (with_reducible first | exact HK.out | apply Kept.alloc | apply Kept.drewN | apply Kept.drew) | exact HK.out)⟩
        · rw [if_neg c7] at H
          exact absurd H (by simp)
      · rw [if_neg c6] at H
        exact absurd H (by simp)
    · rw [if_neg c4] at H
      exact absurd H (by simp)
  · rw [if_neg c3] at H
    exact absurd H (by simp)

theorem take_prefix {l x y : List Int} {m : Nat} (hx : x = l.take x.length) (hy : y = x.take m) : y = l.take y.length := by
  have h : y = l.take (min m x.length) := by rw [hy, hx, List.take_take, ← hx]
  have hl : y.length = min m x.length := by rw [hy, List.length_take]
  rw [hl]; exact h
set_option maxHeartbeats 8000000 in
set_option maxRecDepth 100000 in
theorem trim_exact (k : Nat) (P0_ : Nat → Prop) (A0 : Option Addr) (c0 : Nat) (l0 : List Int) (r : List Int) (w : World) (hs0 : Kd.V (Kd.int .u64) 46 w w.heap.size (fun k_ => P0_ k_) (.slice A0 l0.length c0) l0) (h : nat_trim.f k l0 = some r) :
    Calls Try.prog 43 #[.slice A0 l0.length c0] w fun e w' => e = .returned (.slice A0 r.length c0) ∧ r = l0.take r.length ∧ Below w.heap.size w w' := by
  have HO0 := Aside0.mk (show Kd.V (Kd.int .u64) 46 w w.heap.size (fun k_ => (P0_ k_ ∨ w.heap.size ≤ k_)) (.slice A0 l0.length c0) l0 from Kd.V_mono hs0 (fun k_ hk => .inl hk))
  have HB := Aside0.mk (Below.refl w.heap.size w)
  have H : (nat_trim.l0 k l0) = some r := h
  clear h
  have H' := Aside0.mk H
  clear H
  go_enter Try.func43, Try.ntmps43
  go_wp2
  go_loopg [0] k (fun kq v0 w' => ∃ (x0_1 : List Int), v0 = .slice A0 x0_1.length c0 ∧ Aside0 (x0_1 = l0.take x0_1.length) ∧ Aside0 (nat_trim.l0 kq x0_1 = some r) ∧ Aside0 (kq ≤ k) ∧ Aside0 (Kd.V (Kd.int .u64) 46 w' w.heap.size (fun k_ => (P0_ k_ ∨ w.heap.size ≤ k_)) v0 x0_1) ∧ Aside0 (Below w.heap.size w w'))
  case atStart => exact ⟨(l0), rfl, ⟨(List.take_length).symm⟩, H', ⟨Nat.le_refl _⟩, ⟨by (with_reducible repeat (first | apply Kd.V_alloc | apply Kd.V_drewN | apply Kd.V_drew)); exact HO0.out⟩, ⟨by repeat (first | (with_reducible first | exact HB.out | apply below_alloc | apply pw_below_drewN | apply below_drew1) | exact HB.out)⟩⟩
  case round =>
    clear H'
    obtain ⟨x0_1, rfl, HX, HA, HK1, HO_0, HB⟩ := hrel
    cases gk with
    | zero => exact absurd HA.out (by simp [nat_trim.l0])
    | succ k1 =>
      have H := HA.out
      clear HA
      simp only [nat_trim.l0] at H
      by_cases c2 : (x0_1.length : Int) > 0
      · rw [if_pos c2] at H
        have c2b0 : decide (0 < (x0_1.length : Int)) = true := decide_eq_true c2
        have c2b1 : decide (0 < x0_1.length) = true := decide_eq_true (by omega)
        clear c2
        obtain ⟨ji3, hji3⟩ : ∃ j_ : Int, (wrap64 ((x0_1.length : Int) - 1)) = j_ := ⟨_, rfl⟩
        replace H : (if 0 ≤ (ji3) then (if (ji3) < (x0_1.length : Int) then (if (rd x0_1 (ji3)) = 0 then (if (ji3) ≤ (x0_1.length : Int) then (nat_trim.l0 k1 (x0_1.take ((ji3) : Int).toNat)) else (none)) else (some x0_1)) else (none)) else (none)) = some r := by first | (rw [hji3] at H; exact H) | (simp only [hji3] at H ⊢; exact H)
        have hji3w : (IntKind.i64.wrap ((x0_1.length : Int) - 1)) = ji3 := (i64_w _).trans hji3
        by_cases c4 : 0 ≤ (ji3)
        · rw [if_pos c4] at H
          have c4b0 : decide (0 ≤ (ji3)) = true := decide_eq_true c4
          clear c4
          by_cases c5 : (ji3) < (x0_1.length : Int)
          · rw [if_pos c5] at H
            have c5b0 : decide ((ji3) < (x0_1.length : Int)) = true := decide_eq_true c5
            clear c5
            by_cases c6 : (rd x0_1 (ji3)) = 0
            · rw [if_pos c6] at H
              have c6b0 : ((rd x0_1 (ji3)) == 0) = true := beq_iff_eq.mpr c6
              have c6b1 : ((rd x0_1 (ji3)) != 0) = false := bne_eq_false_iff_eq.mpr c6
              clear c6
              have c7b0 := eq_true (of_decide_eq_true (by first | (with_reducible assumption) | assumption) : 0 ≤ (ji3))
              by_cases c8 : (ji3) ≤ (x0_1.length : Int)
              · rw [if_pos c8] at H
                have c8b0 := eq_true c8
                have c8b1 : decide ((ji3) ≤ (x0_1.length : Int)) = true := decide_eq_true c8
                clear c8
                obtain ⟨y123, hy123⟩ : ∃ y_ : List Int, y_ = (x0_1.take ((ji3) : Int).toNat) := ⟨_, rfl⟩
                replace H : (nat_trim.l0 k1 y123) = some r := by first | (rw [hy123]; with_reducible exact H) | (have H2_ := (Option.bind_some _ _).symm.trans H; rw [hy123]; with_reducible exact H2_) | (have H2_ := (Option.bind_some _ _).symm.trans H; with_reducible exact H2_) | with_reducible exact H | (rw [hy123]; exact H) | exact H
                have Ny123 := Aside0.mk hy123
                clear hy123
                have H' := Aside0.mk H
                clear H
                have p122 : 0 ≤ ((ji3) : Int) := of_decide_eq_true (by first | (with_reducible assumption) | assumption)
                have q122 : (ji3) < (x0_1.length : Int) := of_decide_eq_true (by first | (with_reducible assumption) | assumption)
                obtain ⟨ad122, e122, hx122_0⟩ := Kd.at_int (Kd.V_reads' HO_0.out).2.2 (ji3) p122 q122
                cases e122
                replace p122 := eq_true p122
                replace q122 := eq_true q122
                have q10 : ((ji3) : Int) ≤ ((x0_1.length : Int) : Int) := of_decide_eq_true (by first | (with_reducible assumption) | assumption)
                obtain ⟨i010, hi010, _, hsz10, _⟩ := info_parts info46
                have hroom10 : x0_1.length ≤ c0 := (Kd.V_reads' HO_0.out).2.1
                have hC10 : Kd.F (Kd.int .u64) _ _ (some ad122) x0_1.length x0_1 := (Kd.V_at (base := w.heap.size) HO_0.out).2.2
                have hcut10 := cut_to (P := Try.prog) 22 46 .i64 Try.underlying22 hi010 (some ad122) x0_1.length c0 (ji3) (of_decide_eq_true (by first | (with_reducible assumption) | assumption)) q10 hroom10
                have hr10 := Kd.F_take (m := ((ji3) : Int).toNat) hC10 (by omega)
                have hy10 : y123.length = ((ji3) : Int).toNat := (by rw [Ny123.out, List.length_take]; omega)
                rw [← Ny123.out] at hr10
                rw [← hy10] at hcut10
                have HO127 := Aside0.mk (show Kd.V (Kd.int .u64) 46 _ w.heap.size _ (.slice (some ad122) y123.length c0) y123 from Kd.V_mk (by omega) hr10)
                have HC127 := Aside0.mk (show y123.length ≤ c0 from by omega)
                clear hr10 hC10 hroom10 hi010 hsz10
                have KY10 := Aside0.mk hy10
                clear hy10
                replace q10 := eq_true q10
                go_wp2
                go_roundg k1
                case measure => have := HK1.out; omega
                case rel => exact ⟨(y123), by first | rfl | (simp; done) | (simp [*]; done), ⟨take_prefix HX.out Ny123.out⟩, H', ⟨by have := HK1.out; omega⟩, ⟨by (with_reducible repeat (first | apply Kd.V_alloc | apply Kd.V_drewN | apply Kd.V_drew)); exact HO127.out⟩, ⟨by repeat (first | (with_reducible first | exact HB.out | apply below_alloc | apply pw_below_drewN | apply below_drew1) | exact HB.out)⟩⟩
              · rw [if_neg c8] at H
                exact absurd H (by simp)
            · rw [if_neg c6] at H
              have c6b0 : ((rd x0_1 (ji3)) == 0) = false := beq_eq_false_iff_ne.mpr c6
              have c6b1 : ((rd x0_1 (ji3)) != 0) = true := bne_iff_ne.mpr c6
              obtain rfl := Option.some.inj H
              have p122 : 0 ≤ ((ji3) : Int) := of_decide_eq_true (by first | (with_reducible assumption) | assumption)
              have q122 : (ji3) < (x0_1.length : Int) := of_decide_eq_true (by first | (with_reducible assumption) | assumption)
              obtain ⟨ad122, e122, hx122_0⟩ := Kd.at_int (Kd.V_reads' HO_0.out).2.2 (ji3) p122 q122
              cases e122
              replace p122 := eq_true p122
              replace q122 := eq_true q122
              go_wp2
              go_ret
              exact ⟨by first | rfl | (simp [errW_none, errW_some] <;> rfl) | (simp only [← hji3]; first | rfl | (simp [errW_none, errW_some] <;> rfl)) | (simp [*, errW_none, errW_some] <;> rfl), HX.out, by repeat (first | (with_reducible first | exact HB.out | apply below_alloc | apply pw_below_drewN | apply below_drew1) | exact HB.out)⟩
          · rw [if_neg c5] at H
            exact absurd H (by simp)
        · rw [if_neg c4] at H
          exact absurd H (by simp)
      · rw [if_neg c2] at H
        have c2b0 : decide (0 < (x0_1.length : Int)) = false := decide_eq_false c2
        have c2b1 : decide (0 < x0_1.length) = false := decide_eq_false (by omega)
        clear c2
        obtain rfl := Option.some.inj H
        go_wp2
        go_ret
        exact ⟨by first | rfl | (simp [errW_none, errW_some] <;> rfl) | (simp [*, errW_none, errW_some] <;> rfl), HX.out, by repeat (first | (with_reducible first | exact HB.out | apply below_alloc | apply pw_below_drewN | apply below_drew1) | exact HB.out)⟩

theorem R_prefix {w : World} {base : Nat} {ok : Nat → Prop} {A : Option Addr} {n c : Nat} {xs r : List Int} (h : Kd.R (Kd.int .u64) 46 w base ok (.slice A n c) xs) (hp : r = xs.take r.length) : Kd.R (Kd.int .u64) 46 w base ok (.slice A r.length c) r := by
  have hl : r.length ≤ xs.length := by
    have := congrArg List.length hp
    rw [List.length_take] at this
    omega
  have h2 := Kd.R_take (m := r.length) h hl
  rw [← hp] at h2
  exact h2
set_option maxHeartbeats 8000000 in
set_option maxRecDepth 100000 in
theorem shl_own (A0 : Option Addr) (c0 : Nat) (l0 : List Int) (a1 : Int) (r1 : List Int) (r2 : Int) (w : World) (hr0 : Kd.C (Kd.int .u64) w A0 l0.length l0) (hc0 : l0.length ≤ c0) (h : nat_Shl.f l0 a1 = some (r1, r2)) :
    Calls Try.prog 27 #[.slice A0 l0.length c0, .int .i64 a1] w fun e w' => ∃ v0_ : Value, e = .returned (.tuple #[v0_, .int .i64 r2]) ∧ Kd.R (Kd.int .u64) 46 w' w.heap.size (fun k_ => (w.heap.size ≤ k_)) v0_ r1 ∧ Below w.heap.size w w' := by
  unfold nat_Shl.f at h
  by_cases hw : wfs l0 = true
  case neg => rw [if_neg hw] at h; exact absurd h (by simp)
  rw [if_pos hw] at h
  have hwf := wfs_out hw
  have HB := Aside0.mk (Below.refl w.heap.size w)
  by_cases c1 : a1 < 0
  · rw [if_pos (Or.inl c1)] at h
    simp only [Option.some.injEq, Prod.mk.injEq] at h
    obtain ⟨rfl, rfl⟩ := h
    have c1b : decide (a1 < 0) = true := decide_eq_true c1
    go_enter Try.func27, Try.ntmps27
    go_wp2
    go_ret2
    exact ⟨_, rfl, Kd.R_nil _ _ _ _ _, (by repeat (first | (with_reducible first | exact HB.out | apply below_alloc | apply pw_below_drewN | apply below_drew1) | exact HB.out))⟩
  have c1b : decide (a1 < 0) = false := decide_eq_false c1
  by_cases c2 : 65536 < a1
  · rw [if_pos (Or.inr c2)] at h
    simp only [Option.some.injEq, Prod.mk.injEq] at h
    obtain ⟨rfl, rfl⟩ := h
    have c2b : decide (65536 < a1) = true := decide_eq_true c2
    go_enter Try.func27, Try.ntmps27
    go_wp2
    go_ret2
    exact ⟨_, rfl, Kd.R_nil _ _ _ _ _, (by repeat (first | (with_reducible first | exact HB.out | apply below_alloc | apply pw_below_drewN | apply below_drew1) | exact HB.out))⟩
  have c2b : decide (65536 < a1) = false := decide_eq_false c2
  rw [if_neg (by omega)] at h
  simp only [Option.some.injEq, Prod.mk.injEq] at h
  obtain ⟨rfl, rfl⟩ := h
  obtain ⟨n, rfl⟩ : ∃ n : Nat, a1 = n := ⟨a1.toNat, by omega⟩
  obtain ⟨q, hqn⟩ : ∃ q : Nat, q = n / 64 := ⟨_, rfl⟩
  obtain ⟨s, hsn⟩ : ∃ s : Int, Int.tmod (n : Int) 64 = s := ⟨_, rfl⟩
  have hs0 : s = ((n % 64 : Nat) : Int) := by rw [← hsn, Int.tmod_eq_emod_of_nonneg (by omega)]; omega
  have hq : (n : Int) / 64 = (q : Int) := by omega
  have hs3 : (n : Int) % 64 = s := by omega
  obtain ⟨m, hm⟩ : ∃ m : Nat, wrap64 ((q : Int) + l0.length) = (m : Int) ∧ m = q + l0.length := ⟨q + l0.length, by have := hwf.2; unfold wrap64; omega, rfl⟩
  obtain ⟨c, hc⟩ : ∃ c : Nat, wrap64 ((m : Int) + 1) = (c : Int) ∧ c = q + l0.length + 1 := ⟨q + l0.length + 1, by have := hwf.2; have := hm.2; unfold wrap64; omega, rfl⟩
  have hm1 := hm.1
  have hc1 := hc.1
  have hmk := fun u => make_cap u q c (by have := hc.2; omega) (by have := hc.2; have := hwf.2; omega)
  have HM := Aside0.mk (show q = n / 64 ∧ s = ((n % 64 : Nat) : Int) ∧ n ≤ 65536 ∧ l0.length ≤ 17592186043904 ∧ c = q + l0.length + 1 from ⟨hqn, hs0, by omega, hwf.2, hc.2⟩)
  have HR0 := Aside0.mk hr0
  have HL := Aside0.mk hwf.1
  have hs1 := eq_true (show 0 ≤ s by omega)
  have hs2 : s ≤ 64 := by omega
  obtain ⟨t, ht⟩ : ∃ t : Int, wrap64 (63 - s) = t := ⟨_, rfl⟩
  have ht0 : t = 63 - s := by rw [← ht]; unfold wrap64; omega
  have HT := Aside0.mk ht0
  have ht1 := eq_true (show 0 ≤ t by omega)
  have ht2 : t ≤ 64 := by omega
  clear hqn hs0 hwf hw hr0 ht0 hc hm
  go_enter Try.func27, Try.ntmps27
  go_wp2
  have HO := Aside0.mk (make_cap_R w w.heap.size q c (by have := HM.out; omega) (by have := HM.out; omega) (Nat.le_refl _))
  have HB2 := Aside0.mk (below_alloc HB.out (.cells (madeCells #[.int .u64 0] c) 46))
  clear HB
  have HB := HB2
  clear HB2 hmk
  go_loopg [6, 7, 9, 27] l0.length (fun gk v6 v7 v9 v27 wr => ∃ (xs : List Int) (cr i : Nat), v7 = .int .u64 cr ∧ v27 = .int .i64 i ∧ Aside0 ((i : Int) + gk = l0.length ∧ xs.length = q + i ∧ cr < 2 ^ (n % 64)) ∧ Aside0 (Lim xs) ∧ Aside0 (val xs + 18446744073709551616 ^ (q + i) * cr = val (l0.take i) * 2 ^ (64 * q + n % 64)) ∧ Aside0 (Kd.R (Kd.int .u64) 46 wr w.heap.size (fun k_ => (w.heap.size ≤ k_)) v6 xs) ∧ Aside0 (Below w.heap.size w wr))
  case atStart => exact ⟨List.replicate q 0, 0, 0, rfl, rfl, ⟨by refine ⟨by omega, by simp, Nat.two_pow_pos _⟩⟩, ⟨lim_zeros q⟩, ⟨by simp [val_zeros, val]⟩, ⟨by first | exact HO.out | exact (by (with_reducible repeat (first | apply Kd.R_alloc | apply Kd.R_drewN | apply Kd.R_drew)); exact HO.out)⟩, ⟨(by repeat (first | (with_reducible first | exact HB.out | apply below_alloc | apply pw_below_drewN | apply below_drew1) | exact HB.out))⟩⟩
  case round =>
    clear HO HB
    obtain ⟨xs, cr, i, rfl, rfl, HI, HX, HV, HO, HB⟩ := hrel
    cases gk with
    | zero =>
      have hin_ : i = l0.length := by have := HI.out; omega
      have hd : decide ((i : Int) < (l0.length : Int)) = false := decide_eq_false (by omega)
      have hd2 : decide (i < l0.length) = false := decide_eq_false (by omega)
      have hcr : (0 : Int) ≤ cr ∧ (cr : Int) < 18446744073709551616 := by
        have h1 := HI.out.2.2
        have h2 : 2 ^ (n % 64) ≤ 2 ^ 64 := Nat.pow_le_pow_right (by decide) (by omega)
        have h3 : (2 : Nat) ^ 64 = 18446744073709551616 := by decide
        omega
      have htr := trim_eq (xs ++ [(cr : Int)]).length (xs ++ [(cr : Int)]) rfl (HX.out.app (Lim.one hcr.1 hcr.2)) (by rw [List.length_append]; simp; have := HI.out; have := HM.out; omega) 0
      rw [val_app, val_one, HI.out.2.1, Int.toNat_natCast, HV.out, hin_, List.take_length, show 64 * q + n % 64 = n by have := HM.out; omega] at htr
      have HTR := Aside0.mk htr
      clear htr hcr
      go_wp2_with (first | ((with_reducible refine gate_builtin (b := .append) (xs := #[.tmp 47, .tmp 49]) rfl ?_); at_builtin; refine R_append_big (kd := .u64) (w0 := w) w.heap.size rfl (.tmp 47) (.tmp 49) 22 46 (.int .u64 0) 8 rfl Try.underlying22 info46 rfl (by omega) (by omega) u6 xs ((cr : Int)) (fun k_ => (w.heap.size ≤ k_)) rfl rfl ?aF ?aO ?aB ?aS ?aL ?_; (case aB => exact (by repeat (first | (with_reducible first | exact HB.out | apply below_alloc | apply pw_below_drewN | apply below_drew1) | exact HB.out))); (case aF => exact (fun k_ hk => (Nat.le_trans (below_size (by repeat (first | (with_reducible first | exact HB.out | apply below_alloc | apply pw_below_drewN | apply below_drew1) | exact HB.out))) hk))); (case aO => exact (by (with_reducible repeat (first | apply Kd.R_alloc | apply Kd.R_drewN | apply Kd.R_drew)); exact HO.out)); (case aS => exact (below_size (by repeat (first | (with_reducible first | exact HB.out | apply below_alloc | apply pw_below_drewN | apply below_drew1) | exact HB.out)))); (case aL => have := HI.out; have := HM.out; omega); intro v120 w12 ho hb hg hat; have n0_ := Aside0.mk (hb); have n1_ := Aside0.mk (ho); clear HB; clear HO; have HB := n0_; have HO := n1_; clear n0_ n1_; clear ho hb hg hat) | ((with_reducible refine gate_callee (f := 43) rfl ?_); refine goesL_ (some 51) rfl rfl Try.func43 (by kernel_rfl) rfl #[v120] rfl (by (try simp only [List.map_toArray, List.map_cons, List.map_nil]); first | done | rfl) ?_; obtain ⟨Ao, co, eo⟩ := Kd.R_slice HO.out; subst eo; (with_reducible refine (trim_exact _ (fun k_ => some k_ = (.slice Ao (xs ++ [(cr : Int)]).length co : Value).ownBlock) _ _ (xs ++ [(cr : Int)]) _ _ ?side1 HTR.out).mono ?_); (case side1 => exact Kd.R_V (Kd.R_tight rfl (by (with_reducible repeat (first | apply Kd.R_alloc | apply Kd.R_drewN | apply Kd.R_drew)); exact HO.out))); rintro e w30 ⟨rfl, hpre, hb⟩; refine ⟨_, rfl, ?_⟩; have n1_ := Aside0.mk (Kd.R_below (R_prefix (xs := xs ++ [(cr : Int)]) (by (with_reducible repeat (first | apply Kd.R_alloc | apply Kd.R_drewN | apply Kd.R_drew)); exact HO.out) hpre) hb); have n2_ := Aside0.mk (below_step (by repeat (first | (with_reducible first | exact HB.out | apply below_alloc | apply pw_below_drewN | apply below_drew1) | exact HB.out)) hb); clear HO; clear HB; have HO152 := n1_; have HB := n2_; clear n1_ n2_; (try clear hb); (try clear hpre)))
      go_ret2
      exact ⟨_, rfl, by (with_reducible repeat (first | apply Kd.R_alloc | apply Kd.R_drewN | apply Kd.R_drew)); exact HO152.out, (by repeat (first | (with_reducible first | exact HB.out | apply below_alloc | apply pw_below_drewN | apply below_drew1) | exact HB.out))⟩
    | succ gk' =>
      have hd : decide ((i : Int) < (l0.length : Int)) = true := decide_eq_true (by have := HI.out; omega)
      have hd2 : decide (i < l0.length) = true := decide_eq_true (by have := HI.out; omega)
      have p1 : 0 ≤ (i : Int) := by omega
      have q1 : (i : Int) < (l0.length : Int) := by have := HI.out; omega
      obtain ⟨ad1, e1, hm1_⟩ := Kd.at_int HR0.out i p1 q1
      cases e1
      replace hm1_ := (HB.out.cell (World.block_lt_of_cell? w _ hm1_)).trans hm1_
      have hxl : 0 ≤ rd l0 i ∧ rd l0 i < 18446744073709551616 := HL.out.getD i
      obtain ⟨x, hx⟩ : ∃ x : Nat, rd l0 i = x := ⟨(rd l0 i).toNat, by omega⟩
      rw [hx] at hm1_ hxl
      rw [Int.toNat_natCast] at hm1_
      replace p1 := eq_true p1
      replace q1 := eq_true q1
      have hst := s_nat s n HM.out.2.1
      have HST := Aside0.mk hst
      clear hst
      have HE := Aside0.mk (shl_or x cr (n % 64) (by omega) (by omega) HI.out.2.2)
      have HE1 := Aside0.mk (show Go.bits .or .u64 (IntKind.u64.wrap ((x : Int) * 2 ^ s.toNat)) (cr : Int) = ((x % 2 ^ (64 - n % 64) * 2 ^ (n % 64) + cr : Nat) : Int) by rw [HST.out]; exact HE.out.1)
      have HV1 := Aside0.mk (shl_step l0 xs q i (n % 64) cr HI.out.2.1 (by omega) HL.out HV.out)
      have hgx : (l0.getD i 0).toNat = x := by have : l0.getD i 0 = rd l0 i := rfl; rw [this, hx]; rfl
      have HV2 := Aside0.mk (hgx ▸ HV1.out)
      have HHI := Aside0.mk (shl_hi_lt x (n % 64) (by omega) (by omega))
      have HH := Aside0.mk (shl_hi x (n % 64) (by omega))
      have HT2 := Aside0.mk (show (63 - s).toNat = 63 - n % 64 by have := HM.out; omega)
      clear hgx HV1 hx
      go_wp2_with (first | ((with_reducible refine gate_builtin (b := .append) (xs := #[.tmp 31, .tmp 38]) rfl ?_); at_builtin; refine R_append_big (kd := .u64) (w0 := w) w.heap.size rfl (.tmp 31) (.tmp 38) 22 46 (.int .u64 0) 8 rfl Try.underlying22 info46 rfl (by omega) (by omega) u6 xs (Go.bits .or .u64 (IntKind.u64.wrap ((x : Int) * 2 ^ s.toNat)) (cr : Int)) (fun k_ => (w.heap.size ≤ k_)) rfl rfl ?aF ?aO ?aB ?aS ?aL ?_; (case aB => exact (by repeat (first | (with_reducible first | exact HB.out | apply below_alloc | apply pw_below_drewN | apply below_drew1) | exact HB.out))); (case aF => exact (fun k_ hk => (Nat.le_trans (below_size (by repeat (first | (with_reducible first | exact HB.out | apply below_alloc | apply pw_below_drewN | apply below_drew1) | exact HB.out))) hk))); (case aO => exact (by (with_reducible repeat (first | apply Kd.R_alloc | apply Kd.R_drewN | apply Kd.R_drew)); exact HO.out)); (case aS => exact (below_size (by repeat (first | (with_reducible first | exact HB.out | apply below_alloc | apply pw_below_drewN | apply below_drew1) | exact HB.out)))); (case aL => have := HI.out; have := HM.out; omega); intro v120 w12 ho hb hg hat; have n0_ := Aside0.mk (hb); have n1_ := Aside0.mk (ho); clear HB; clear HO; have HB := n0_; have HO := n1_; clear n0_ n1_; clear ho hb hg hat))
      rw [HE1.out] at HO
      go_roundg gk'
      case measure => omega
      case rel => exact ⟨xs ++ [((x % 2 ^ (64 - n % 64) * 2 ^ (n % 64) + cr : Nat) : Int)], x / 2 ^ (64 - n % 64), i + 1, by first | (with_reducible rfl) | (rw [HT2.out, ← HH.out, Int.natCast_ediv, Int.natCast_ediv, Int.natCast_pow]; rfl), by first | (with_reducible rfl) | (have := HI.out; have := HM.out; congr 1; unfold wrap64; omega), ⟨by have := HI.out; refine ⟨by omega, by rw [List.length_append]; simp; omega, HHI.out⟩⟩, ⟨HX.out.app (Lim.one (by omega) (by have := HE.out.2; omega))⟩, ⟨HV2.out⟩, ⟨(by (with_reducible repeat (first | apply Kd.R_alloc | apply Kd.R_drewN | apply Kd.R_drew)); exact HO.out)⟩, ⟨(by repeat (first | (with_reducible first | exact HB.out | apply below_alloc | apply pw_below_drewN | apply below_drew1) | exact HB.out))⟩⟩

end Go.Proofs.Ytfaknblpkegekaa.Q
end
section
namespace Go.Proofs.Ytfaknblpkegekaa.Q
open Go.RowKit Go.Proofs.YtfaknblpkegekaaW.PrintWords Go.Proofs.YtfaknblpkegekaaW.PrintLast Go.Proofs.YtfaknblpkegekaaW.PrintMore
set_option linter.unusedVariables false
theorem Same_drop (x y : List Int) (hl : x.length = y.length) (hb : x.length ≤ 9223372036854775806) (k : Nat) : ∀ (d i : Nat), i + d = x.length → quipuref01_Same.l0 (k + d + 1) x y i = some (decide (x.drop i = y.drop i)) := by
  intro d
  induction d with
  | zero =>
    intro i hi
    simp only [quipuref01_Same.l0]
    rw [if_neg (by omega), List.drop_eq_nil_of_le (by omega), List.drop_eq_nil_of_le (by omega)]
    rfl
  | succ d ih =>
    intro i hi
    obtain ⟨K, hK⟩ : ∃ K, K = k + d + 1 := ⟨_, rfl⟩
    rw [show k + (d + 1) + 1 = K + 1 by omega]
    simp only [quipuref01_Same.l0]
    have w2 : wrap64 ((i : Int) + 1) = ((i + 1 : Nat) : Int) := by unfold wrap64; omega
    rw [if_pos (by omega), if_pos (by omega), if_pos (by omega), w2]
    have ex : x.drop i = rd x i :: x.drop (i + 1) := by
      rw [List.drop_eq_getElem_cons (by omega : i < x.length)]
      congr 1
      show _ = x.getD (i : Int).toNat 0
      rw [Int.toNat_natCast, List.getD_eq_getElem?_getD, List.getElem?_eq_getElem (by omega)]; rfl
    have ey : y.drop i = rd y i :: y.drop (i + 1) := by
      rw [List.drop_eq_getElem_cons (by omega : i < y.length)]
      congr 1
      show _ = y.getD (i : Int).toNat 0
      rw [Int.toNat_natCast, List.getD_eq_getElem?_getD, List.getElem?_eq_getElem (by omega)]; rfl
    by_cases c : rd x i = rd y i
    · rw [if_pos c, hK, ih (i + 1) (by omega), ex, ey, c]
      congr 1
      simp
    · rw [if_neg c, ex, ey]
      congr 1
      simp [c]
theorem Same_all (x y : List Int) (hb : x.length ≤ 9223372036854775806) (K : Nat) (hK : x.length + 1 ≤ K) : quipuref01_Same.f K x y = some (decide (x = y)) := by
  unfold quipuref01_Same.f
  by_cases c : (x.length : Int) = y.length
  · rw [if_pos c]
    have h := Same_drop x y (by omega) hb (K - x.length - 1) x.length 0 (by omega)
    rw [show K - x.length - 1 + x.length + 1 = K by omega] at h
    rw [show ((0 : Nat) : Int) = 0 from rfl] at h
    rw [h]; rfl
  · rw [if_neg c]
    congr 1
    have : x ≠ y := fun e => c (by rw [e])
    simp [this]
theorem trim_ge (l : List Int) (h : Lim l) (hb : l.length ≤ 9223372036854775807) (K : Nat) (hK : l.length + 1 ≤ K) : nat_trim.f K l = some (limbs (val l)) := by
  have := trim_eq l.length l rfl h hb (K - l.length - 1)
  rwa [show K - l.length - 1 + l.length + 1 = K by omega] at this
theorem Norm_ge (l : List Int) (h : Lim l) (hb : l.length ≤ 17592186044410) (K : Nat) (hK : l.length + 1 ≤ K) : nat_Norm.f K l = some (limbs (val l)) := by
  unfold nat_Norm.f
  have hl := limbs_le l h
  rw [Option.bind_some, trim_ge l h (by omega) K hK, Option.bind_some, if_pos (by simp; omega)]
  rfl
theorem cmp_ge (x y : List Int) (hx : Lim x) (hy : Lim y) (hbx : x.length ≤ 1152921504606846976) (hby : y.length ≤ 1152921504606846976) (K : Nat) (hK : x.length + y.length + 2 ≤ K) : nat_Cmp.f K x y = some (cmpN (val x) (val y)) := by
  have h := Cmp_eq x y hx hy hbx hby (K - x.length - y.length - 2)
  rwa [show K - x.length - y.length - 2 + x.length + y.length + 2 = K by omega] at h
def nbits (n : Nat) : Nat := if n = 0 then 0 else n.log2 + 1
theorem nbits_in (n : Nat) (h : n ≠ 0) : ∃ k, nbits n = k + 1 ∧ 2 ^ k ≤ n ∧ n < 2 ^ (k + 1) :=
  ⟨n.log2, by unfold nbits; rw [if_neg h], Nat.log2_self_le h, Nat.lt_log2_self⟩
theorem bitLen_nbits (x : Nat) (h : x < 18446744073709551616) : Lib.bitLen x = nbits x := by
  by_cases c : x = 0
  · subst c; rfl
  · obtain ⟨k, e, h0, h1⟩ := nbits_in x c
    rw [e]
    have hk : k < 64 := by
      rcases Nat.lt_or_ge k 64 with g | g
      · exact g
      · have := Nat.pow_le_pow_right (show 0 < 2 by decide) g
        rw [show (2 : Nat) ^ 64 = 18446744073709551616 by decide] at this
        omega
    have a := Lib.bitLen_le x (k + 1) (by omega) h1
    have b := Lib.bitLen_shift k x h0 (by rw [show (2 : Nat) ^ 64 = 18446744073709551616 by decide]; exact h)
    have d : 1 ≤ Lib.bitLen (x / 2 ^ k) := by
      have hq : x / 2 ^ k ≠ 0 := by
        have := (Nat.le_div_iff_mul_le (Nat.two_pow_pos k)).2 (show 1 * 2 ^ k ≤ x by omega)
        omega
      rw [Lib.bitLen_half _ hq (by
        have := Nat.div_le_self x (2 ^ k)
        rw [show (2 : Nat) ^ 64 = 18446744073709551616 by decide]; omega)]
      omega
    omega
theorem limbs_top (n : Nat) (h : n ≠ 0) : ∃ (m : List Int) (y : Int), limbs n = m ++ [y] ∧ Lim m ∧ 0 < y ∧ y < 18446744073709551616 ∧ n = val m + 18446744073709551616 ^ m.length * y.toNat := by
  have hne : limbs n ≠ [] := by intro e; have := limbs_val n; rw [e] at this; exact h this.symm
  obtain ⟨m, y, e⟩ : ∃ m y, limbs n = m ++ [y] := ⟨_, _, (List.dropLast_concat_getLast hne).symm⟩
  have hl := limbs_lim n
  rw [e] at hl
  have hm : Lim m := fun z hz => hl z (List.mem_append_left _ hz)
  have hy := hl y (by simp)
  have hp := limbs_pow n h
  have hv := limbs_val n
  rw [e, val_app, val_one] at hv
  rw [e] at hp
  simp only [List.length_append, List.length_cons, List.length_nil, Nat.add_sub_cancel, Nat.zero_add] at hp
  refine ⟨m, y, e, hm, ?_, hy.2, hv.symm⟩
  have hlt := val_lt m hm
  rcases Int.lt_or_le 0 y with g | g
  · exact g
  · exfalso
    have : y.toNat = 0 := by omega
    rw [this, Nat.mul_zero] at hv
    omega
theorem wr64 (x : Int) (h : 0 ≤ x ∧ x < 18446744073709551616) : IntKind.u64.wrap x = x := by
  rw [IntKind.wrap_u64]; omega
theorem guess_fits (y y1 y0 u u1 q r : Nat) (hy : y = y1 * 4294967296 + y0) (hq : q * y1 + r = u) (h : q * y0 ≤ 4294967296 * r + u1) : q * y ≤ u * 4294967296 + u1 := by
  rw [hy, Nat.mul_add, ← Nat.mul_assoc, ← hq]
  generalize q * y1 = a at *
  generalize q * y0 = b at *
  omega
theorem guess_over (y y1 y0 u u1 q r : Nat) (hy : y = y1 * 4294967296 + y0) (hq : q * y1 + r = u) (h : 4294967296 * r + u1 < q * y0) : u * 4294967296 + u1 < q * y := by
  rw [hy, Nat.mul_add, ← Nat.mul_assoc, ← hq]
  generalize q * y1 = a at *
  generalize q * y0 = b at *
  omega
theorem guess_huge (y u u1 q : Nat) (hu : u < y) (h1 : u1 < 4294967296) (h : 4294967296 ≤ q) : u * 4294967296 + u1 < q * y := by
  have h2 : 4294967296 * y ≤ q * y := Nat.mul_le_mul_right _ h
  generalize q * y = z at *
  omega
theorem lt_of_over {q y n : Nat} (h : n < q * y) : n / y < q := Nat.div_lt_of_lt_mul (by rw [Nat.mul_comm]; exact h)
theorem le_of_fits {q y n : Nat} (hy : 0 < y) (h : q * y ≤ n) : q ≤ n / y := (Nat.le_div_iff_mul_le hy).2 h
structure Half (y y1 y0 u u1 : Nat) : Prop where
  hy : y = y1 * 4294967296 + y0
  h0 : y0 < 4294967296
  h1 : y1 < 4294967296
  lo : 2147483648 ≤ y1
  hu : u < y
  hu1 : u1 < 4294967296
theorem l0_law (y y1 y0 u u1 s u0 : Nat) (H : Half y y1 y0 u u1) (K : Nat) : ∀ (d q r : Nat), q - (u * 4294967296 + u1) / y ≤ d → (u * 4294967296 + u1) / y ≤ q → q * y1 + r = u → r < 4294967296 → q ≤ 4294967300 →
    ∃ K', K ≤ K' ∧ bits_Div64.l0 (K + 2 * d + 2) y s y1 y0 u u1 u0 q r = bits_Div64.j2 K' y s y1 y0 u u1 u0 (((u * 4294967296 + u1) / y : Nat) : Int) := by
  have ypos : 0 < y := by have := H.hy; have := H.lo; omega
  obtain ⟨Q, hQ⟩ : ∃ Q, Q = (u * 4294967296 + u1) / y := ⟨_, rfl⟩
  rw [← hQ]
  have b0 := H.h0
  have b1 := H.h1
  have b2 := H.lo
  have b3 := H.hu1
  have over : ∀ q r : Nat, q * y1 + r = u → (4294967296 ≤ q ∨ 4294967296 * r + u1 < q * y0) → Q < q := fun q r h1 h2 => by
    rw [hQ]
    rcases h2 with h2 | h2
    · exact lt_of_over (guess_huge y u u1 q H.hu b3 h2)
    · exact lt_of_over (guess_over y y1 y0 u u1 q r H.hy h1 h2)
  have fits : ∀ q r : Nat, q * y1 + r = u → q * y0 ≤ 4294967296 * r + u1 → q ≤ Q := fun q r h1 h2 => by
    rw [hQ]
    exact le_of_fits ypos (guess_fits y y1 y0 u u1 q r H.hy h1 h2)
  intro d
  induction d with
  | zero =>
    intro q r hd hq hr hr32 hqm
    obtain rfl : q = Q := by omega
    have hn : ¬ (4294967296 ≤ q ∨ 4294967296 * r + u1 < q * y0) := fun h => Nat.lt_irrefl _ (over q r hr h)
    have hq2 : q < 4294967296 := by
      rcases Nat.lt_or_ge q 4294967296 with h | h
      · exact h
      · exact absurd (Or.inl h) hn
    have hp : q * y0 ≤ 4294967296 * r + u1 := by
      rcases Nat.lt_or_ge (4294967296 * r + u1) (q * y0) with h | h
      · exact absurd (Or.inr h) hn
      · exact h
    refine ⟨K, Nat.le_refl _, ?_⟩
    rw [show K + 2 * 0 + 2 = (K + 1) + 1 by omega]
    simp only [bits_Div64.l0]
    rw [if_neg (by omega)]
    have e : decide (IntKind.u64.wrap ((q : Int) * (y0 : Int)) > IntKind.u64.wrap (IntKind.u64.wrap (4294967296 * (r : Int)) + (u1 : Int))) = false := by
      rw [← Int.natCast_mul]
      generalize q * y0 = z at hp
      rw [wr64 (4294967296 * (r : Int)) (by omega), wr64 (4294967296 * (r : Int) + (u1 : Int)) (by omega), wr64 (z : Int) (by omega)]
      exact decide_eq_false (by omega)
    rw [e]
    simp only [bits_Div64.j1]
    rw [if_neg (by decide)]
  | succ d ih =>
    intro q r hd hq hr hr32 hqm
    rw [show K + 2 * (d + 1) + 2 = (K + 2 * d + 2 + 1) + 1 by omega]
    by_cases c : 4294967296 ≤ q ∨ 4294967296 * r + u1 < q * y0
    · have hgt := over q r hr c
      have hrun : bits_Div64.l0 ((K + 2 * d + 2 + 1) + 1) y s y1 y0 u u1 u0 q r = bits_Div64.j1 (K + 2 * d + 2 + 1) y s y1 y0 u u1 u0 q r true := by
        simp only [bits_Div64.l0]
        by_cases c1 : 4294967296 ≤ q
        · rw [if_pos (by omega)]
        · rw [if_neg (by omega)]
          have hp : 4294967296 * r + u1 < q * y0 := c.resolve_left c1
          have hz : q * y0 ≤ 4294967295 * 4294967295 := Nat.mul_le_mul (by omega) (by omega)
          have e : decide (IntKind.u64.wrap ((q : Int) * (y0 : Int)) > IntKind.u64.wrap (IntKind.u64.wrap (4294967296 * (r : Int)) + (u1 : Int))) = true := by
            rw [← Int.natCast_mul]
            generalize q * y0 = z at hp hz
            rw [wr64 (4294967296 * (r : Int)) (by omega), wr64 (4294967296 * (r : Int) + (u1 : Int)) (by omega), wr64 (z : Int) (by omega)]
            exact decide_eq_true (by omega)
          rw [e]
      rw [hrun]
      have e1 : IntKind.u64.wrap ((r : Int) + (y1 : Int)) = ((r + y1 : Nat) : Int) := by rw [wr64 _ (by omega)]; omega
      have e2 : IntKind.u64.wrap ((q : Int) - 1) = ((q - 1 : Nat) : Int) := by rw [wr64 _ (by omega)]; omega
      have hr' : (q - 1) * y1 + (r + y1) = u := by
        have : q * y1 = (q - 1) * y1 + y1 := by
          obtain ⟨q', rfl⟩ : ∃ q', q = q' + 1 := ⟨q - 1, by omega⟩
          rw [Nat.add_mul, Nat.one_mul]; rfl
        omega
      simp only [bits_Div64.j1]
      rw [if_pos trivial, e1, e2]
      by_cases c2 : 4294967296 ≤ r + y1
      · rw [if_pos (by omega)]
        have hle : q - 1 ≤ Q := fits (q - 1) (r + y1) hr' (by
          have h1 : (q - 1) * y0 ≤ 4294967299 * 4294967295 := Nat.mul_le_mul (by omega) (by omega)
          have h2 : q - 1 ≤ 4294967296 := by
            rcases Nat.lt_or_ge 4294967296 (q - 1) with h | h
            · exfalso
              have := H.hy
              have := H.hu
              have h3 : 4294967297 * y1 ≤ (q - 1) * y1 := Nat.mul_le_mul_right _ h
              generalize (q - 1) * y1 = z at *
              omega
            · exact h
          have h4 : (q - 1) * y0 ≤ 4294967296 * 4294967295 := Nat.mul_le_mul h2 (by omega)
          generalize (q - 1) * y0 = z at *
          omega)
        refine ⟨K + 2 * d + 2, by omega, ?_⟩
        rw [show q - 1 = Q by omega]
      · rw [if_neg (by omega)]
        exact ih (q - 1) (r + y1) (by omega) (by omega) hr' (by omega) (by omega)
    · have hq2 : q < 4294967296 := by
        rcases Nat.lt_or_ge q 4294967296 with h | h
        · exact h
        · exact absurd (Or.inl h) c
      have hp : q * y0 ≤ 4294967296 * r + u1 := by
        rcases Nat.lt_or_ge (4294967296 * r + u1) (q * y0) with h | h
        · exact absurd (Or.inr h) c
        · exact h
      have hle := fits q r hr hp
      obtain rfl : q = Q := by omega
      refine ⟨K + 2 * d + 2, by omega, ?_⟩
      simp only [bits_Div64.l0]
      rw [if_neg (by omega)]
      have e : decide (IntKind.u64.wrap ((q : Int) * (y0 : Int)) > IntKind.u64.wrap (IntKind.u64.wrap (4294967296 * (r : Int)) + (u1 : Int))) = false := by
        rw [← Int.natCast_mul]
        generalize q * y0 = z at hp
        rw [wr64 (4294967296 * (r : Int)) (by omega), wr64 (4294967296 * (r : Int) + (u1 : Int)) (by omega), wr64 (z : Int) (by omega)]
        exact decide_eq_false (by omega)
      rw [e]
      simp only [bits_Div64.j1]
      rw [if_neg (by decide)]
def divRes (y s q1 u u1 Q : Nat) : Int × Int := (IntKind.u64.wrap (IntKind.u64.wrap ((q1 : Int) * 4294967296) + (Q : Int)), shr .u64 (IntKind.u64.wrap (IntKind.u64.wrap (IntKind.u64.wrap ((u : Int) * 4294967296) + (u1 : Int)) - IntKind.u64.wrap ((Q : Int) * (y : Int)))) (s : Int))
theorem l1_law (y y1 y0 u u1 s q1 : Nat) (H : Half y y1 y0 u u1) (K : Nat) : ∀ (d q r : Nat), q - (u * 4294967296 + u1) / y ≤ d → (u * 4294967296 + u1) / y ≤ q → q * y1 + r = u → r < 4294967296 → q ≤ 4294967300 →
    bits_Div64.l1 (K + 2 * d + 2) y s y1 y0 u1 q1 r u q = some (divRes y s q1 u u1 ((u * 4294967296 + u1) / y)) := by
  have hs : (0 : Int) ≤ (s : Int) := by omega
  have ypos : 0 < y := by have := H.hy; have := H.lo; omega
  obtain ⟨Q, hQ⟩ : ∃ Q, Q = (u * 4294967296 + u1) / y := ⟨_, rfl⟩
  rw [← hQ]
  have b0 := H.h0
  have b1 := H.h1
  have b2 := H.lo
  have b3 := H.hu1
  have over : ∀ q r : Nat, q * y1 + r = u → (4294967296 ≤ q ∨ 4294967296 * r + u1 < q * y0) → Q < q := fun q r h1 h2 => by
    rw [hQ]
    rcases h2 with h2 | h2
    · exact lt_of_over (guess_huge y u u1 q H.hu b3 h2)
    · exact lt_of_over (guess_over y y1 y0 u u1 q r H.hy h1 h2)
  have fits : ∀ q r : Nat, q * y1 + r = u → q * y0 ≤ 4294967296 * r + u1 → q ≤ Q := fun q r h1 h2 => by
    rw [hQ]
    exact le_of_fits ypos (guess_fits y y1 y0 u u1 q r H.hy h1 h2)
  intro d
  induction d with
  | zero =>
    intro q r hd hq hr hr32 hqm
    obtain rfl : q = Q := by omega
    have hn : ¬ (4294967296 ≤ q ∨ 4294967296 * r + u1 < q * y0) := fun h => Nat.lt_irrefl _ (over q r hr h)
    have hq2 : q < 4294967296 := by
      rcases Nat.lt_or_ge q 4294967296 with h | h
      · exact h
      · exact absurd (Or.inl h) hn
    have hp : q * y0 ≤ 4294967296 * r + u1 := by
      rcases Nat.lt_or_ge (4294967296 * r + u1) (q * y0) with h | h
      · exact absurd (Or.inr h) hn
      · exact h
    rw [show K + 2 * 0 + 2 = (K + 1) + 1 by omega]
    simp only [bits_Div64.l1]
    rw [if_neg (by omega)]
    have e : decide (IntKind.u64.wrap ((q : Int) * (y0 : Int)) > IntKind.u64.wrap (IntKind.u64.wrap (4294967296 * (r : Int)) + (u1 : Int))) = false := by
      rw [← Int.natCast_mul]
      generalize q * y0 = z at hp
      rw [wr64 (4294967296 * (r : Int)) (by omega), wr64 (4294967296 * (r : Int) + (u1 : Int)) (by omega), wr64 (z : Int) (by omega)]
      exact decide_eq_false (by omega)
    rw [e]
    simp only [bits_Div64.j4]
    rw [if_neg (by decide), if_pos hs]
    rfl
  | succ d ih =>
    intro q r hd hq hr hr32 hqm
    rw [show K + 2 * (d + 1) + 2 = (K + 2 * d + 2 + 1) + 1 by omega]
    by_cases c : 4294967296 ≤ q ∨ 4294967296 * r + u1 < q * y0
    · have hgt := over q r hr c
      have hrun : bits_Div64.l1 ((K + 2 * d + 2 + 1) + 1) y s y1 y0 u1 q1 r u q = bits_Div64.j4 (K + 2 * d + 2 + 1) y s y1 y0 u1 q1 r u q true := by
        simp only [bits_Div64.l1]
        by_cases c1 : 4294967296 ≤ q
        · rw [if_pos (by omega)]
        · rw [if_neg (by omega)]
          have hp : 4294967296 * r + u1 < q * y0 := c.resolve_left c1
          have hz : q * y0 ≤ 4294967295 * 4294967295 := Nat.mul_le_mul (by omega) (by omega)
          have e : decide (IntKind.u64.wrap ((q : Int) * (y0 : Int)) > IntKind.u64.wrap (IntKind.u64.wrap (4294967296 * (r : Int)) + (u1 : Int))) = true := by
            rw [← Int.natCast_mul]
            generalize q * y0 = z at hp hz
            rw [wr64 (4294967296 * (r : Int)) (by omega), wr64 (4294967296 * (r : Int) + (u1 : Int)) (by omega), wr64 (z : Int) (by omega)]
            exact decide_eq_true (by omega)
          rw [e]
      rw [hrun]
      have e1 : IntKind.u64.wrap ((r : Int) + (y1 : Int)) = ((r + y1 : Nat) : Int) := by rw [wr64 _ (by omega)]; omega
      have e2 : IntKind.u64.wrap ((q : Int) - 1) = ((q - 1 : Nat) : Int) := by rw [wr64 _ (by omega)]; omega
      have hr' : (q - 1) * y1 + (r + y1) = u := by
        have : q * y1 = (q - 1) * y1 + y1 := by
          obtain ⟨q', rfl⟩ : ∃ q', q = q' + 1 := ⟨q - 1, by omega⟩
          rw [Nat.add_mul, Nat.one_mul]; rfl
        omega
      simp only [bits_Div64.j4]
      rw [if_pos trivial, e1, e2]
      by_cases c2 : 4294967296 ≤ r + y1
      · rw [if_pos (by omega)]
        have hle : q - 1 ≤ Q := fits (q - 1) (r + y1) hr' (by
          have h1 : (q - 1) * y0 ≤ 4294967299 * 4294967295 := Nat.mul_le_mul (by omega) (by omega)
          have h2 : q - 1 ≤ 4294967296 := by
            rcases Nat.lt_or_ge 4294967296 (q - 1) with h | h
            · exfalso
              have := H.hy
              have := H.hu
              have h3 : 4294967297 * y1 ≤ (q - 1) * y1 := Nat.mul_le_mul_right _ h
              generalize (q - 1) * y1 = z at *
              omega
            · exact h
          have h4 : (q - 1) * y0 ≤ 4294967296 * 4294967295 := Nat.mul_le_mul h2 (by omega)
          generalize (q - 1) * y0 = z at *
          omega)
        rw [if_pos hs, show q - 1 = Q by omega]
        rfl
      · rw [if_neg (by omega)]
        exact ih (q - 1) (r + y1) (by omega) (by omega) hr' (by omega) (by omega)
    · have hq2 : q < 4294967296 := by
        rcases Nat.lt_or_ge q 4294967296 with h | h
        · exact h
        · exact absurd (Or.inl h) c
      have hp : q * y0 ≤ 4294967296 * r + u1 := by
        rcases Nat.lt_or_ge (4294967296 * r + u1) (q * y0) with h | h
        · exact absurd (Or.inr h) c
        · exact h
      have hle := fits q r hr hp
      obtain rfl : q = Q := by omega
      simp only [bits_Div64.l1]
      rw [if_neg (by omega)]
      have e : decide (IntKind.u64.wrap ((q : Int) * (y0 : Int)) > IntKind.u64.wrap (IntKind.u64.wrap (4294967296 * (r : Int)) + (u1 : Int))) = false := by
        rw [← Int.natCast_mul]
        generalize q * y0 = z at hp
        rw [wr64 (4294967296 * (r : Int)) (by omega), wr64 (4294967296 * (r : Int) + (u1 : Int)) (by omega), wr64 (z : Int) (by omega)]
        exact decide_eq_false (by omega)
      rw [e]
      simp only [bits_Div64.j4]
      rw [if_neg (by decide), if_pos hs]
      rfl
theorem sub_wraps (a b z : Nat) (h : z ≤ a * 4294967296 + b) (h2 : a * 4294967296 + b - z < 18446744073709551616) :
    IntKind.u64.wrap (IntKind.u64.wrap (IntKind.u64.wrap ((a : Int) * 4294967296) + (b : Int)) - IntKind.u64.wrap (z : Int)) = ((a * 4294967296 + b - z : Nat) : Int) := by
  rw [IntKind.wrap_u64, IntKind.wrap_u64, IntKind.wrap_u64, IntKind.wrap_u64]
  omega
theorem divRes_eq (y s q1 u u1 Q : Nat) (hs : s ≤ 63) (hq1 : q1 < 4294967296) (hQ : Q < 4294967296) (h : Q * y ≤ u * 4294967296 + u1) (h2 : u * 4294967296 + u1 - Q * y < 18446744073709551616) :
    divRes y s q1 u u1 Q = (((q1 * 4294967296 + Q : Nat) : Int), (((u * 4294967296 + u1 - Q * y) / 2 ^ s : Nat) : Int)) := by
  unfold divRes
  refine Prod.ext ?_ ?_
  · simp only
    rw [wr64 ((q1 : Int) * 4294967296) (by omega), wr64 ((q1 : Int) * 4294967296 + (Q : Int)) (by omega)]
    omega
  · simp only
    rw [← Int.natCast_mul, sub_wraps u u1 (Q * y) h h2]
    unfold shr
    rw [Int.toNat_natCast, Nat.min_eq_left (show s ≤ IntKind.u64.bits by show s ≤ 64; omega), Int.natCast_ediv, Int.natCast_pow]
    rfl
theorem halves (y m u0 : Nat) (hy : 0 < y) : (m / y) * 4294967296 + ((m % y) * 4294967296 + u0) / y = (m * 4294967296 + u0) / y ∧ ((m % y) * 4294967296 + u0) % y = (m * 4294967296 + u0) % y := by
  have e := Nat.div_add_mod m y
  obtain ⟨q, hq⟩ : ∃ q, q = m / y := ⟨_, rfl⟩
  obtain ⟨r, hr⟩ : ∃ r, r = m % y := ⟨_, rfl⟩
  rw [← hq, ← hr] at e
  rw [← hq, ← hr]
  have e2 : m * 4294967296 + u0 = (r * 4294967296 + u0) + y * (q * 4294967296) := by
    rw [← Nat.mul_assoc]
    generalize y * q = z at *
    omega
  have e3 : (m * 4294967296 + u0) / y = (r * 4294967296 + u0) / y + q * 4294967296 := by
    rw [e2]
    exact Nat.add_mul_div_left (r * 4294967296 + u0) (q * 4294967296) hy
  have e4 : (m * 4294967296 + u0) % y = (r * 4294967296 + u0) % y := by
    rw [e2]
    exact Nat.add_mul_mod_self_left (r * 4294967296 + u0) y (q * 4294967296)
  exact ⟨by rw [e3, Nat.add_comm], e4.symm⟩
theorem j2_law (y y1 y0 u u1 s u0 : Nat) (H : Half y y1 y0 u u1) (hs : s ≤ 63) (hu0 : u0 < 4294967296) (hyB : y < 18446744073709551616) (K : Nat) (hK : 20000000000 ≤ K) :
    bits_Div64.j2 K y s y1 y0 u u1 u0 (((u * 4294967296 + u1) / y : Nat) : Int) = some (((((u * 4294967296 + u1) * 4294967296 + u0) / y : Nat) : Int), ((((u * 4294967296 + u1) * 4294967296 + u0) % y / 2 ^ s : Nat) : Int)) := by
  have ypos : 0 < y := by have := H.hy; have := H.lo; omega
  have b1 := H.h1
  have b2 := H.lo
  have hh := halves y (u * 4294967296 + u1) u0 ypos
  have hN := Nat.div_add_mod (u * 4294967296 + u1) y
  have hr := Nat.mod_lt (u * 4294967296 + u1) ypos
  have hq : (u * 4294967296 + u1) / y < 4294967296 := Nat.div_lt_of_lt_mul (by have := H.hu; have := H.hu1; omega)
  obtain ⟨q, hqe⟩ : ∃ q, q = (u * 4294967296 + u1) / y := ⟨_, rfl⟩
  obtain ⟨r, hre⟩ : ∃ r, r = (u * 4294967296 + u1) % y := ⟨_, rfl⟩
  rw [← hqe, ← hre] at hh hN
  rw [← hqe] at hq ⊢
  rw [← hre] at hr
  obtain ⟨K', rfl⟩ : ∃ K', K = K' + 1 := ⟨K - 1, by omega⟩
  have e1 : IntKind.u64.wrap (IntKind.u64.wrap (IntKind.u64.wrap ((u : Int) * 4294967296) + (u1 : Int)) - IntKind.u64.wrap ((q : Int) * (y : Int))) = (r : Int) := by
    have hm : q * y = y * q := Nat.mul_comm _ _
    rw [← Int.natCast_mul, hm]
    rw [sub_wraps u u1 (y * q) (by clear hh; omega) (by clear hh; omega)]
    clear hm hh
    generalize y * q = z at *
    omega
  have H2 : Half y y1 y0 r u0 := ⟨H.hy, H.h0, H.h1, H.lo, hr, hu0⟩
  have hr64 : r < 18446744073709551616 := by omega
  have e2 : IntKind.u64.wrap (Int.tdiv (r : Int) (y1 : Int)) = ((r / y1 : Nat) : Int) := by
    have h1 : Int.tdiv (r : Int) (y1 : Int) = ((r / y1 : Nat) : Int) := by rw [Int.tdiv_eq_ediv_of_nonneg (by omega)]; exact (Int.natCast_ediv r y1).symm
    have h2 := Nat.div_le_self r y1
    rw [h1]
    clear h1 hh
    generalize r / y1 = z at h2 ⊢
    exact wr64 (z : Int) (by omega)
  have hd1 := Nat.div_add_mod r y1
  have hd2 := Nat.mod_lt r (show 0 < y1 by omega)
  have e3 : IntKind.u64.wrap ((r : Int) - IntKind.u64.wrap (((r / y1 : Nat) : Int) * (y1 : Int))) = ((r % y1 : Nat) : Int) := by
    rw [← Int.natCast_mul, Nat.mul_comm (r / y1) y1]
    generalize y1 * (r / y1) = z at *
    generalize r % y1 = m at *
    rw [wr64 (z : Int) (by omega), wr64 _ (by omega)]
    omega
  have hq0 : r / y1 ≤ 4294967300 := by
    have h1 : r < 4294967300 * y1 := by
      have := H.hy
      have := H.h0
      omega
    exact Nat.le_of_lt (Nat.div_lt_of_lt_mul (by rw [Nat.mul_comm]; exact h1))
  simp only [bits_Div64.j2]
  rw [if_neg (by omega), e1, e2, e3]
  have hQ0 : (r * 4294967296 + u0) / y ≤ r / y1 := by
    refine Nat.le_trans ?_ (Nat.le_refl _)
    have h1 : y1 * 4294967296 ≤ y := by have := H.hy; omega
    have h2 : (r * 4294967296 + u0) / y ≤ (r * 4294967296 + u0) / (y1 * 4294967296) := Nat.div_le_div_left h1 (by omega)
    have h3 : (r * 4294967296 + u0) / (y1 * 4294967296) = r / y1 := by
      rw [Nat.mul_comm y1, ← Nat.div_div_eq_div_mul, show (r * 4294967296 + u0) / 4294967296 = r by omega]
    omega
  have hl := l1_law y y1 y0 r u0 s q H2 (K' - 2 * (r / y1) - 2) (r / y1) (r / y1) (r % y1) (Nat.sub_le _ _) hQ0 (by rw [Nat.mul_comm]; exact hd1) (Nat.lt_trans hd2 b1) hq0
  rw [show K' - 2 * (r / y1) - 2 + 2 * (r / y1) + 2 = K' by omega] at hl
  rw [hl]
  have hlt : (r * 4294967296 + u0) / y < 4294967296 := Nat.div_lt_of_lt_mul (by clear hh hl; omega)
  have hfit : (r * 4294967296 + u0) / y * y ≤ r * 4294967296 + u0 := Nat.div_mul_le_self _ _
  have hrest : r * 4294967296 + u0 - (r * 4294967296 + u0) / y * y = (r * 4294967296 + u0) % y := by
    have := Nat.div_add_mod (r * 4294967296 + u0) y
    rw [Nat.mul_comm] at this
    omega
  rw [divRes_eq y s q r u0 _ hs hq hlt hfit (by rw [hrest]; have := Nat.mod_lt (r * 4294967296 + u0) ypos; omega), hrest, hh.1, hh.2]
theorem or_lay (a b i : Nat) (h : a < 2 ^ i) (ha : b * 2 ^ i + a < 18446744073709551616) : Go.bits .or .u64 ((b * 2 ^ i : Nat) : Int) (a : Int) = ((b * 2 ^ i + a : Nat) : Int) := by
  have e := Nat.shiftLeft_add_eq_or_of_lt h b
  rw [Nat.shiftLeft_eq] at e
  have e2 : (2 : Nat) ^ 64 = 18446744073709551616 := by decide
  simp only [Go.bits]
  have hb64 : IntKind.u64.bits = 64 := rfl
  rw [BitVec.ofInt_natCast, BitVec.ofInt_natCast, BitVec.toNat_or, BitVec.toNat_ofNat, BitVec.toNat_ofNat, hb64, Nat.mod_eq_of_lt (by rw [e2]; omega), Nat.mod_eq_of_lt (by rw [e2]; omega), ← e, IntKind.wrap_u64]
  clear e
  generalize b * 2 ^ i + a = z at ha ⊢
  omega
theorem and32 (a : Nat) (h : a < 18446744073709551616) : Go.bits .and .u64 (a : Int) 4294967295 = ((a % 4294967296 : Nat) : Int) := by
  have ha : a < 2 ^ 64 := by omega
  have e1 : (4294967295 : Int) = ((2 ^ 32 - 1 : Nat) : Int) := by decide
  simp only [Go.bits]
  have hb64 : IntKind.u64.bits = 64 := rfl
  rw [e1, BitVec.ofInt_natCast, BitVec.ofInt_natCast, BitVec.toNat_and, BitVec.toNat_ofNat, BitVec.toNat_ofNat, hb64, Nat.mod_eq_of_lt ha, Nat.mod_eq_of_lt (by decide : 2 ^ 32 - 1 < 2 ^ 64), Nat.and_two_pow_sub_one_eq_mod, IntKind.wrap_u64]
  omega
theorem shl_in (a s : Nat) (hs : s ≤ 64) : shl .u64 (a : Int) (s : Int) = ((a * 2 ^ s % 18446744073709551616 : Nat) : Int) := by
  unfold shl
  rw [Int.toNat_natCast, Nat.min_eq_left (show s ≤ IntKind.u64.bits from hs), IntKind.wrap_u64]
  have a2 : ((2 : Int)) ^ s = ((2 ^ s : Nat) : Int) := by rw [Int.natCast_pow]; rfl
  rw [a2, ← Int.natCast_mul]
  generalize a * 2 ^ s = z
  omega
theorem shr_in (a s : Nat) (hs : s ≤ 64) : shr .u64 (a : Int) (s : Int) = ((a / 2 ^ s : Nat) : Int) := by
  unfold shr
  rw [Int.toNat_natCast, Nat.min_eq_left (show s ≤ IntKind.u64.bits from hs), Int.natCast_ediv, Int.natCast_pow]
  rfl
theorem lz_eq (y : Nat) (h0 : 0 < y) (hy : y < 18446744073709551616) : ∃ s : Nat, s ≤ 63 ∧ bits_LeadingZeros64.f (y : Int) = some (s : Int) ∧ 9223372036854775808 ≤ y * 2 ^ s ∧ y * 2 ^ s < 18446744073709551616 := by
  obtain ⟨k, e, l0, l1⟩ := nbits_in y (by omega)
  have hk : k < 64 := by
    rcases Nat.lt_or_ge k 64 with g | g
    · exact g
    · have := Nat.pow_le_pow_right (show 0 < 2 by decide) g
      rw [show (2 : Nat) ^ 64 = 18446744073709551616 by decide] at this
      omega
  refine ⟨63 - k, by omega, ?_, ?_, ?_⟩
  · unfold bits_LeadingZeros64.f bits_Len64.f
    rw [if_pos (by omega), Option.bind_some, Int.toNat_natCast, bitLen_nbits y hy, e]
    congr 1
    unfold wrap64
    omega
  · have h2 := Nat.mul_le_mul_right (2 ^ (63 - k)) l0
    rw [← Nat.pow_add, show k + (63 - k) = 63 by omega, show (2 : Nat) ^ 63 = 9223372036854775808 by decide] at h2
    exact h2
  · have h2 := Nat.mul_lt_mul_of_pos_right l1 (Nat.two_pow_pos (63 - k))
    rw [← Nat.pow_add, show k + 1 + (63 - k) = 64 by omega, show (2 : Nat) ^ 64 = 18446744073709551616 by decide] at h2
    exact h2
theorem Div64_eq (hi lo y : Nat) (h : hi < y) (hlo : lo < 18446744073709551616) (hy : y < 18446744073709551616) (K : Nat) (hK : 50000000000 ≤ K) :
    bits_Div64.f K (hi : Int) (lo : Int) (y : Int) = some ((((hi * 18446744073709551616 + lo) / y : Nat) : Int), (((hi * 18446744073709551616 + lo) % y : Nat) : Int)) := by
  unfold bits_Div64.f
  rw [if_neg (by omega), if_neg (by omega)]
  by_cases c : hi = 0
  · subst c
    rw [if_pos (show ((0 : Nat) : Int) = 0 from rfl), Nat.zero_mul, Nat.zero_add]
    have e1 : Int.tdiv (lo : Int) (y : Int) = ((lo / y : Nat) : Int) := by rw [Int.tdiv_eq_ediv_of_nonneg (by omega)]; exact (Int.natCast_ediv lo y).symm
    have e2 : Int.tmod (lo : Int) (y : Int) = ((lo % y : Nat) : Int) := by rw [Int.tmod_eq_emod_of_nonneg (by omega)]; exact (Int.natCast_emod lo y).symm
    have h2 := Nat.div_le_self lo y
    rw [e1, e2]
    generalize lo / y = z at h2 ⊢
    rw [wr64 (z : Int) (by omega)]
  · rw [if_neg (by omega)]
    obtain ⟨s, hs, es, n0, n1⟩ := lz_eq y (by omega) hy
    rw [es, Option.bind_some]
    have w1 : IntKind.u64.wrap (s : Int) = (s : Int) := wr64 _ (by omega)
    have w2 : IntKind.u64.wrap (64 - (s : Int)) = ((64 - s : Nat) : Int) := by rw [wr64 (64 - (s : Int)) (by omega)]; omega
    rw [w1, w2, if_pos (by omega), if_pos (by omega)]
    obtain ⟨S, hS⟩ : ∃ S, S = 2 ^ s := ⟨_, rfl⟩
    obtain ⟨T, hT⟩ : ∃ T, T = 2 ^ (64 - s) := ⟨_, rfl⟩
    have hST : S * T = 18446744073709551616 := by rw [hS, hT, ← Nat.pow_add, show s + (64 - s) = 64 by omega]
    have hSp : 0 < S := by rw [hS]; exact Nat.two_pow_pos s
    have hTp : 0 < T := by rw [hT]; exact Nat.two_pow_pos _
    rw [← hS] at n0 n1
    have hhi : hi * S < y * S := Nat.mul_lt_mul_of_pos_right h hSp
    have ey : shl .u64 (y : Int) (s : Int) = ((y * S : Nat) : Int) := by rw [shl_in y s (by omega), ← hS, Nat.mod_eq_of_lt n1]
    have eh : shl .u64 (hi : Int) (s : Int) = ((hi * S : Nat) : Int) := by rw [shl_in hi s (by omega), ← hS, Nat.mod_eq_of_lt (by omega)]
    have el : shl .u64 (lo : Int) (s : Int) = ((lo * S % 18446744073709551616 : Nat) : Int) := by rw [shl_in lo s (by omega), ← hS]
    have er : shr .u64 (lo : Int) ((64 - s : Nat) : Int) = ((lo / T : Nat) : Int) := by rw [shr_in lo (64 - s) (by omega), ← hT]
    have hlt : lo / T < S := Nat.div_lt_of_lt_mul (by rw [Nat.mul_comm, hST]; exact hlo)
    have hU : hi * S + lo / T < y * S := by
      have h3 : (hi + 1) * S ≤ y * S := Nat.mul_le_mul_right S h
      rw [Nat.add_mul, Nat.one_mul] at h3
      omega
    have eo : Go.bits .or .u64 ((hi * S : Nat) : Int) ((lo / T : Nat) : Int) = ((hi * S + lo / T : Nat) : Int) := by
      rw [hS]
      exact or_lay (lo / T) hi s (by rw [← hS]; exact hlt) (by rw [← hS]; omega)
    rw [ey, eh, el, er, eo]
    -- the number, shifted
    have hnum : (hi * 18446744073709551616 + lo) * S = (hi * S + lo / T) * 18446744073709551616 + lo * S % 18446744073709551616 := by
      have e1 : lo * S / 18446744073709551616 = lo / T := by rw [← hST, Nat.mul_comm lo S, Nat.mul_div_mul_left _ _ hSp]
      have e2 := Nat.div_add_mod (lo * S) 18446744073709551616
      rw [e1] at e2
      rw [Nat.add_mul, Nat.mul_right_comm hi 18446744073709551616 S]
      generalize hi * S = a at *
      generalize lo * S = b at *
      generalize lo / T = d at *
      generalize b % 18446744073709551616 = r at *
      omega
    have hL : lo * S % 18446744073709551616 < 18446744073709551616 := Nat.mod_lt _ (by decide)
    obtain ⟨Y, hY⟩ : ∃ Y, Y = y * S := ⟨_, rfl⟩
    obtain ⟨U, hU2⟩ : ∃ U, U = hi * S + lo / T := ⟨_, rfl⟩
    obtain ⟨L, hL2⟩ : ∃ L, L = lo * S % 18446744073709551616 := ⟨_, rfl⟩
    rw [← hY] at n0 n1 hU ⊢
    rw [← hU2] at hU hnum ⊢
    rw [← hL2] at hL hnum ⊢
    clear ey eh el er eo hhi hlt hU2 hL2
    rw [and32 Y n1, and32 L hL]
    have f1 : (Y : Int) / 4294967296 = ((Y / 4294967296 : Nat) : Int) := by omega
    have f2 : (L : Int) / 4294967296 = ((L / 4294967296 : Nat) : Int) := by omega
    rw [f1, f2, if_neg (by omega)]
    have hy1 : 2147483648 ≤ Y / 4294967296 ∧ Y / 4294967296 < 4294967296 := by omega
    have H : Half Y (Y / 4294967296) (Y % 4294967296) U (L / 4294967296) := ⟨by omega, by omega, hy1.2, hy1.1, hU, by omega⟩
    obtain ⟨y1, hy1e⟩ : ∃ y1, y1 = Y / 4294967296 := ⟨_, rfl⟩
    rw [← hy1e] at H hy1 ⊢
    have hd1 := Nat.div_add_mod U y1
    have hd2 := Nat.mod_lt U (show 0 < y1 by omega)
    have g1 : IntKind.u64.wrap (Int.tdiv (U : Int) (y1 : Int)) = ((U / y1 : Nat) : Int) := by
      have h1 : Int.tdiv (U : Int) (y1 : Int) = ((U / y1 : Nat) : Int) := by rw [Int.tdiv_eq_ediv_of_nonneg (by omega)]; exact (Int.natCast_ediv U y1).symm
      have h2 := Nat.div_le_self U y1
      rw [h1]
      clear h1 hd1
      generalize U / y1 = z at h2 ⊢
      exact wr64 (z : Int) (by omega)
    have g2 : IntKind.u64.wrap ((U : Int) - IntKind.u64.wrap (((U / y1 : Nat) : Int) * (y1 : Int))) = ((U % y1 : Nat) : Int) := by
      rw [← Int.natCast_mul, Nat.mul_comm (U / y1) y1]
      clear g1
      generalize y1 * (U / y1) = z at *
      generalize U % y1 = m at *
      rw [wr64 (z : Int) (by omega), wr64 ((U : Int) - (z : Int)) (by omega)]
      omega
    rw [g1, g2]
    have hq0 : U / y1 ≤ 4294967300 := by
      have h1 : U < 4294967300 * y1 := by omega
      exact Nat.le_of_lt (Nat.div_lt_of_lt_mul (by rw [Nat.mul_comm]; exact h1))
    have hQ0 : (U * 4294967296 + L / 4294967296) / Y ≤ U / y1 := by
      have h1 : y1 * 4294967296 ≤ Y := by omega
      have h2 : (U * 4294967296 + L / 4294967296) / Y ≤ (U * 4294967296 + L / 4294967296) / (y1 * 4294967296) := Nat.div_le_div_left h1 (by omega)
      have h3 : (U * 4294967296 + L / 4294967296) / (y1 * 4294967296) = U / y1 := by
        rw [Nat.mul_comm y1, ← Nat.div_div_eq_div_mul, show (U * 4294967296 + L / 4294967296) / 4294967296 = U by omega]
      omega
    obtain ⟨K', hK', hrun⟩ := l0_law Y y1 (Y % 4294967296) U (L / 4294967296) s (L % 4294967296) H (K - 2 * (U / y1) - 2) (U / y1) (U / y1) (U % y1) (Nat.sub_le _ _) hQ0 (by rw [Nat.mul_comm]; exact hd1) (by omega) hq0
    rw [show K - 2 * (U / y1) - 2 + 2 * (U / y1) + 2 = K by omega] at hrun
    rw [hrun, j2_law Y y1 (Y % 4294967296) U (L / 4294967296) s (L % 4294967296) H hs (by omega) n1 K' (by omega)]
    have hm : (U * 4294967296 + L / 4294967296) * 4294967296 + L % 4294967296 = (hi * 18446744073709551616 + lo) * S := by rw [hnum]; omega
    rw [hm, hY, ← hS, Nat.mul_div_mul_right _ _ hSp, Nat.mul_mod_mul_right, Nat.mul_div_cancel _ hSp]
theorem limbs_prefix_of : ∀ (n : Nat) (l : List Int), l.length = n → Lim l → ∃ k, k ≤ l.length ∧ limbs (val l) = l.take k
  | 0, l, hl, h => by
    obtain rfl : l = [] := List.eq_nil_of_length_eq_zero hl
    exact ⟨0, Nat.le_refl _, rfl⟩
  | n + 1, l, hl, h => by
    have hne : l ≠ [] := by intro e; rw [e] at hl; simp at hl
    obtain ⟨m, y, rfl⟩ : ∃ m y, l = m ++ [y] := ⟨_, _, (List.dropLast_concat_getLast hne).symm⟩
    have hm : Lim m := fun z hz => h z (List.mem_append_left _ hz)
    have hy := h y (by simp)
    by_cases c : y = 0
    · subst c
      obtain ⟨k, hk, e⟩ := limbs_prefix_of n m (by simpa using hl) hm
      refine ⟨k, by rw [List.length_append]; omega, ?_⟩
      rw [val_snoc0, e, List.take_append_of_le_length hk]
    · refine ⟨(m ++ [y]).length, Nat.le_refl _, ?_⟩
      rw [List.take_length]
      exact limbs_val_snoc m y hm (by omega) hy.2
theorem limbs_prefix (l : List Int) (h : Lim l) : limbs (val l) = l.take (limbs (val l)).length := by
  obtain ⟨k, hk, e⟩ := limbs_prefix_of l.length l rfl h
  have hl : (limbs (val l)).length = k := by rw [e, List.length_take]; omega
  rw [hl]; exact e
structure DivPrep (x y la lb : Nat) (a b : List Int) (n : Int) (un : Nat) (tp : Int) (vs us : List Int) : Prop where
  hn : n = un ∧ un ≤ 63
  lz : bits_LeadingZeros64.f tp = some n
  top : rd b ((b.length - 1 : Nat) : Int) = tp
  shv : nat_Shl.f b n = some (vs, 0)
  shu : nat_Shl.f a n = some (us, 0)
  limv : Lim vs
  limu : Lim us
  lenv : vs.length = b.length
  lenu : us.length ≤ a.length + 1
  lenab : b.length ≤ a.length
  pos : 0 < y
  valv : val vs = y * 2 ^ un
  valu : val us = x * 2 ^ un
  big : x * 2 ^ un < 18446744073709551616 ^ (a.length + 1 - b.length) * (y * 2 ^ un)
theorem limbs_lt (n L : Nat) (h : n < 18446744073709551616 ^ L) : (limbs n).length ≤ L := by
  by_cases c : n = 0
  · subst c; rw [limbs_zero]; simp
  · have h1 := limbs_pow n c
    rcases Nat.lt_or_ge L (limbs n).length with h2 | h2
    · exfalso
      have h3 : (18446744073709551616 : Nat) ^ L ≤ 18446744073709551616 ^ ((limbs n).length - 1) := Nat.pow_le_pow_right (by decide) (by omega)
      omega
    · exact h2
theorem limbs_ge (n L : Nat) (h : 18446744073709551616 ^ L ≤ n) : L < (limbs n).length := by
  rcases Nat.lt_or_ge L (limbs n).length with h2 | h2
  · exact h2
  · exfalso
    have h1 := val_lt (limbs n) (limbs_lim n)
    rw [limbs_val] at h1
    have h3 : (18446744073709551616 : Nat) ^ (limbs n).length ≤ 18446744073709551616 ^ L := Nat.pow_le_pow_right (by decide) h2
    omega
theorem div_prep (x y la lb : Nat) (ha : la ≤ 17592186043904) (hb : lb ≤ 17592186043904) (ea : (limbs x).length = la) (eb : (limbs y).length = lb) (hm : 2 ≤ lb) (hge : y ≤ x) :
    ∃ n un tp vs us, DivPrep x y la lb (limbs x) (limbs y) n un tp vs us := by
  have hy : y ≠ 0 := by intro e; rw [e, limbs_zero] at eb; simp at eb; omega
  obtain ⟨m, t, et, hlm, ht0, ht1, hyv⟩ := limbs_top y hy
  have hml : m.length + 1 = lb := by rw [← eb, et]; simp
  obtain ⟨tn, rfl⟩ : ∃ a : Nat, t = a := ⟨t.toNat, by omega⟩
  rw [Int.toNat_natCast] at hyv
  obtain ⟨s, hs, ez, n0, n1⟩ := lz_eq tn (by omega) (by omega)
  have hmv := val_lt m hlm
  have hxl : x < 18446744073709551616 ^ la := by have := val_lt (limbs x) (limbs_lim x); rw [limbs_val, ea] at this; exact this
  have hab : lb ≤ la := by
    rcases Nat.lt_or_ge la lb with h | h
    · exfalso
      have := limbs_len_lt (show (limbs x).length < (limbs y).length by omega)
      omega
    · exact h
  have hS : 0 < 2 ^ s := Nat.two_pow_pos s
  have hSB : 2 ^ s ≤ 9223372036854775808 := by
    have := Nat.pow_le_pow_right (show 0 < 2 by decide) hs
    rw [show (2 : Nat) ^ 63 = 9223372036854775808 by decide] at this
    exact this
  have eS : ∀ l : List Int, Lim l → l.length ≤ 17592186043904 → nat_Shl.f l (s : Int) = some (limbs (val l * 2 ^ s), 0) := fun l h1 h2 => by
    unfold nat_Shl.f
    rw [wfs_in h1 h2, if_pos rfl, if_neg (show ¬ ((s : Int) < 0 ∨ 65536 < (s : Int)) by omega), Int.toNat_natCast]
  have eV := eS (limbs y) (limbs_lim y) (by omega)
  have eU := eS (limbs x) (limbs_lim x) (by omega)
  rw [limbs_val] at eV eU
  obtain ⟨S, hSe⟩ : ∃ S, S = 2 ^ s := ⟨_, rfl⟩
  rw [← hSe] at n0 n1 hS hSB eV eU
  -- the bounds of y S
  have hyS1 : y * S < 18446744073709551616 ^ lb := by
    rw [hyv, ← hml, Nat.pow_succ]
    have h1 : (tn + 1) * S ≤ 18446744073709551616 := by
      rw [Nat.add_mul, Nat.one_mul]
      -- tn * S is a multiple of S below 2^64
      obtain ⟨T, hT⟩ : ∃ T, S * T = 18446744073709551616 := ⟨2 ^ (64 - s), by rw [hSe, ← Nat.pow_add, show s + (64 - s) = 64 by omega]⟩
      have h2 : tn < T := Nat.lt_of_mul_lt_mul_left (a := S) (by rw [hT, Nat.mul_comm]; exact n1)
      have h3 : (tn + 1) * S ≤ T * S := Nat.mul_le_mul_right S h2
      rw [Nat.mul_comm T S, hT, Nat.add_mul, Nat.one_mul] at h3
      exact h3
    have h4 : val m + 18446744073709551616 ^ m.length * tn + 1 ≤ 18446744073709551616 ^ m.length * (tn + 1) := by rw [Nat.mul_add, Nat.mul_one]; omega
    have h5 := Nat.mul_le_mul_right S h4
    have h6 : 18446744073709551616 ^ m.length * (tn + 1) * S ≤ 18446744073709551616 ^ m.length * 18446744073709551616 := by rw [Nat.mul_assoc]; exact Nat.mul_le_mul_left _ h1
    rw [Nat.add_mul, Nat.one_mul] at h5
    omega
  have hyS0 : 18446744073709551616 ^ m.length ≤ y * S := by
    have h1 : 18446744073709551616 ^ m.length * 1 ≤ 18446744073709551616 ^ m.length * tn := Nat.mul_le_mul_left _ (by omega)
    have h2 : y * 1 ≤ y * S := Nat.mul_le_mul_left _ hS
    omega
  have hxS : x * S < 18446744073709551616 ^ (la + 1) := by
    rw [Nat.pow_succ]
    have h1 : x * S ≤ x * 18446744073709551616 := Nat.mul_le_mul_left _ (by omega)
    have h2 : x * 18446744073709551616 < 18446744073709551616 ^ la * 18446744073709551616 := Nat.mul_lt_mul_of_pos_right hxl (by decide)
    omega
  refine ⟨(s : Int), s, (tn : Int), limbs (y * S), limbs (x * S), ⟨rfl, hs⟩, ez, ?_, eV, eU, limbs_lim _, limbs_lim _, ?_, ?_, by omega, by omega, by rw [limbs_val, hSe], by rw [limbs_val, hSe], ?_⟩
  · rw [et]
    show (m ++ [(tn : Int)]).getD (((m ++ [(tn : Int)]).length - 1 : Nat) : Int).toNat 0 = tn
    simp
  · have h1 := limbs_lt _ _ hyS1
    have h2 := limbs_ge _ _ hyS0
    omega
  · have h1 := limbs_lt _ _ hxS
    omega
  · rw [ea, eb, ← hSe]
    have e1 : la + 1 - lb + m.length = la := by omega
    have h1 : 18446744073709551616 ^ la ≤ 18446744073709551616 ^ (la + 1 - lb) * y := by
      have e2 : 18446744073709551616 ^ la = 18446744073709551616 ^ (la + 1 - lb) * 18446744073709551616 ^ m.length := by rw [← Nat.pow_add, e1]
      rw [e2]
      refine Nat.mul_le_mul_left _ ?_
      have h2 : 18446744073709551616 ^ m.length * 1 ≤ 18446744073709551616 ^ m.length * tn := Nat.mul_le_mul_left _ (by omega)
      omega
    have h3 : x < 18446744073709551616 ^ (la + 1 - lb) * y := Nat.lt_of_lt_of_le hxl h1
    have h4 := Nat.mul_lt_mul_of_pos_right h3 hS
    rw [Nat.mul_assoc] at h4
    exact h4
end Go.Proofs.Ytfaknblpkegekaa.Q
end
