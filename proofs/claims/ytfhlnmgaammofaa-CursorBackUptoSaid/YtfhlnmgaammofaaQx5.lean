-- printed by a program of this session (wip/tools/print2.sh) after the kit's print
import Derived.Test.YtfhlnmgaammofaaQx0
import Derived.Test.YtfhlnmgaammofaaQx2
import Derived.Test.YtfhlnmgaammofaaQx3
import Derived.Test.YtfhlnmgaammofaaQx4
namespace Go.Proofs.Ytfhlnmgaammofaa.Q
open Go.RowKit Go.Proofs.YtfhlnmgaammofaaW.PrintWords Go.Proofs.YtfhlnmgaammofaaW.PrintLast Go.Proofs.YtfhlnmgaammofaaW.PrintMore
attribute [local go_sem] max2_int min2_int max_two min_two max_three min_three max_four min_four   -- for this text's walks alone
set_option linter.unusedVariables false
set_option linter.unusedSimpArgs false

/-! ### quipulaw11_CursorRunes: function 3 -/
def quipulaw11_CursorRunes.f (k : Nat) (a0 : ByteArray) (a1 : Int) : Option (Bool) := (quipuref11_Runes.f k a0).bind fun t150 => ((cursor_Rune.f k a0 a1).bind fun t151 => ((quipuref11_Rune.f k a0 a1).bind fun t152 => (if t151 = t152 then ((cursor_Valid.f k a0).bind fun t153 => (if (t153 == (decide (t150 ≥ 0))) = true then ((cursor_Runes.f k a0).bind fun t154 => (if t154 = t150 then ((quipulaw11_fixed.f k).bind fun t155 => (some t155)) else (some false))) else (some false))) else (some false))))
theorem quipulaw11_CursorRunes.mono : ∀ a0 a1 k, LeO (quipulaw11_CursorRunes.f k a0 a1) (quipulaw11_CursorRunes.f (k + 1) a0 a1) := by
  intro a0 a1 k
  unfold quipulaw11_CursorRunes.f
  repeat' first
      | (with_reducible exact cursor_Rune.mono _ _ _)
      | (with_reducible exact cursor_Runes.mono _ _)
      | (with_reducible exact cursor_Valid.mono _ _)
      | (with_reducible exact quipulaw11_fixed.mono _)
      | (with_reducible exact quipuref11_Rune.mono _ _ _)
      | (with_reducible exact quipuref11_Runes.mono _ _)
      | (with_reducible exact LeO.refl _)
      | (with_reducible exact LeO.none _)
      | (with_reducible refine LeO.ite ?_ ?_)
      | (with_reducible refine LeO.bind ?_ (fun _ => ?_))
      | exact cursor_Rune.mono _ _ _
      | exact cursor_Runes.mono _ _
      | exact cursor_Valid.mono _ _
      | exact quipulaw11_fixed.mono _
      | exact quipuref11_Rune.mono _ _ _
      | exact quipuref11_Runes.mono _ _
      | exact LeO.none _
      | refine LeO.ite ?_ ?_
      | refine LeO.bind ?_ (fun _ => ?_)
set_option maxHeartbeats 8000000 in
set_option maxRecDepth 100000 in
theorem quipulaw11_CursorRunes.calls (k : Nat) (a0 : ByteArray) (a1 : Int) (r : Bool) (w : World) (h : quipulaw11_CursorRunes.f k a0 a1 = some r) :
    Calls Try.prog 3 #[.string a0, .int .i64 a1] w fun e w' => e = .returned (.bool r) ∧ Below w.heap.size w w' := by
  have HB := Aside0.mk (Below.refl w.heap.size w)
  have H : ((quipuref11_Runes.f k a0).bind fun t150 => ((cursor_Rune.f k a0 a1).bind fun t151 => ((quipuref11_Rune.f k a0 a1).bind fun t152 => (if t151 = t152 then ((cursor_Valid.f k a0).bind fun t153 => (if (t153 == (decide (t150 ≥ 0))) = true then ((cursor_Runes.f k a0).bind fun t154 => (if t154 = t150 then ((quipulaw11_fixed.f k).bind fun t155 => (some t155)) else (some false))) else (some false))) else (some false))))) = some r := h
  clear h
  replace H := Option.bind_eq_some_iff.mp H
  obtain ⟨t150, A30, H⟩ := H
  replace H : ((cursor_Rune.f k a0 a1).bind fun t151 => ((quipuref11_Rune.f k a0 a1).bind fun t152 => (if t151 = t152 then ((cursor_Valid.f k a0).bind fun t153 => (if (t153 == (decide (t150 ≥ 0))) = true then ((cursor_Runes.f k a0).bind fun t154 => (if t154 = t150 then ((quipulaw11_fixed.f k).bind fun t155 => (some t155)) else (some false))) else (some false))) else (some false)))) = some r := H
  have A3 := Aside0.mk A30
  clear A30
  replace H := Option.bind_eq_some_iff.mp H
  obtain ⟨t151, A40, H⟩ := H
  replace H : ((quipuref11_Rune.f k a0 a1).bind fun t152 => (if t151 = t152 then ((cursor_Valid.f k a0).bind fun t153 => (if (t153 == (decide (t150 ≥ 0))) = true then ((cursor_Runes.f k a0).bind fun t154 => (if t154 = t150 then ((quipulaw11_fixed.f k).bind fun t155 => (some t155)) else (some false))) else (some false))) else (some false))) = some r := H
  have A4 := Aside0.mk A40
  clear A40
  replace H := Option.bind_eq_some_iff.mp H
  obtain ⟨t152, A50, H⟩ := H
  replace H : (if t151 = t152 then ((cursor_Valid.f k a0).bind fun t153 => (if (t153 == (decide (t150 ≥ 0))) = true then ((cursor_Runes.f k a0).bind fun t154 => (if t154 = t150 then ((quipulaw11_fixed.f k).bind fun t155 => (some t155)) else (some false))) else (some false))) else (some false)) = some r := H
  have A5 := Aside0.mk A50
  clear A50
  by_cases c6 : t151 = t152
  · rw [if_pos c6] at H
    have c6b0 : (t151 == t152) = true := beq_iff_eq.mpr c6
    have c6b1 : (t151 != t152) = false := bne_eq_false_iff_eq.mpr c6
    clear c6
    replace H := Option.bind_eq_some_iff.mp H
    obtain ⟨t153, A70, H⟩ := H
    replace H : (if (t153 == (decide (t150 ≥ 0))) = true then ((cursor_Runes.f k a0).bind fun t154 => (if t154 = t150 then ((quipulaw11_fixed.f k).bind fun t155 => (some t155)) else (some false))) else (some false)) = some r := H
    have A7 := Aside0.mk A70
    clear A70
    by_cases c8 : (t153 == (decide (t150 ≥ 0))) = true
    · rw [if_pos c8] at H
      have c8b0 : (t153 == (decide (t150 ≥ 0))) = true := c8
      (try (have c8b1 : decide (t153 = (decide (t150 ≥ 0))) = true := by simpa using c8))
      (try (have c8b2 : (t153 == (decide (t150 ≥ 0))) = true := by simpa using c8))
      clear c8
      replace H := Option.bind_eq_some_iff.mp H
      obtain ⟨t154, A90, H⟩ := H
      replace H : (if t154 = t150 then ((quipulaw11_fixed.f k).bind fun t155 => (some t155)) else (some false)) = some r := H
      have A9 := Aside0.mk A90
      clear A90
      by_cases c10 : t154 = t150
      · rw [if_pos c10] at H
        have c10b0 : (t154 == t150) = true := beq_iff_eq.mpr c10
        have c10b1 : (t154 != t150) = false := bne_eq_false_iff_eq.mpr c10
        clear c10
        replace H := Option.bind_eq_some_iff.mp H
        obtain ⟨t155, A110, H⟩ := H
        replace H : (some t155) = some r := H
        have A11 := Aside0.mk A110
        clear A110
        obtain rfl := Option.some.inj H
        go_enter Try.func3, Try.ntmps3
        go_wp2_with (first | ((with_reducible refine gate_callee (f := 9) rfl ?_); refine goesL_ (some 7) rfl rfl Try.func9 (by kernel_rfl) rfl #[.string a0] rfl (by (try simp only [List.map_toArray, List.map_cons, List.map_nil]); first | done | rfl | (simp only [List.length_drop, List.length_take]; rfl)) ?_; (with_reducible refine (quipuref11_Runes.calls k a0 t150 _ A3.out).mono ?_); rintro e w' ⟨rfl, ⟨nd, rfl⟩⟩; refine ⟨_, rfl, ?_⟩) | ((with_reducible refine gate_callee (f := 10) rfl ?_); refine goesL_ (some 10) rfl rfl Try.func10 (by kernel_rfl) rfl #[.string a0, .int .i64 a1] rfl (by (try simp only [List.map_toArray, List.map_cons, List.map_nil]); first | done | rfl | (simp only [List.length_drop, List.length_take]; rfl)) ?_; (with_reducible refine (cursor_Rune.calls k a0 a1 t151 _ A4.out).mono ?_); rintro e w' ⟨rfl, ⟨nd, rfl⟩⟩; refine ⟨_, rfl, ?_⟩) | ((with_reducible refine gate_callee (f := 11) rfl ?_); refine goesL_ (some 13) rfl rfl Try.func11 (by kernel_rfl) rfl #[.string a0, .int .i64 a1] rfl (by (try simp only [List.map_toArray, List.map_cons, List.map_nil]); first | done | rfl | (simp only [List.length_drop, List.length_take]; rfl)) ?_; (with_reducible refine (quipuref11_Rune.calls k a0 a1 t152 _ A5.out).mono ?_); rintro e w' ⟨rfl, ⟨nd, rfl⟩⟩; refine ⟨_, rfl, ?_⟩) | (go_at_call 12; (with_reducible refine (cursor_Valid.calls k a0 t153 _ A7.out).mono ?_); rintro e w' ⟨rfl, ⟨nd, rfl⟩⟩) | (go_at_call 13; (with_reducible refine (cursor_Runes.calls k a0 t154 _ A9.out).mono ?_); rintro e w' ⟨rfl, ⟨nd, rfl⟩⟩) | (go_at_call 14; (with_reducible refine (quipulaw11_fixed.calls k  t155 _ A11.out).mono ?_); rintro e w12 ⟨rfl, hb⟩; have n0_ := Aside0.mk (below_step (by repeat (first | (with_reducible first | exact HB.out | apply below_alloc | apply pw_below_drewN | apply below_drew1) | exact HB.out)) hb); clear HB; have HB := n0_; clear n0_; (try clear hb); (try clear hb2); (try clear hk); (try clear hi)))
        go_ret
        exact ⟨by first | rfl | (simp [errW_none, errW_some] <;> rfl) | (simp [*, errW_none, errW_some] <;> rfl), by repeat (first | (with_reducible first | exact HB.out | apply below_alloc | apply pw_below_drewN | apply below_drew1) | exact HB.out)⟩
      · rw [if_neg c10] at H
        have c10b0 : (t154 == t150) = false := beq_eq_false_iff_ne.mpr c10
        have c10b1 : (t154 != t150) = true := bne_iff_ne.mpr c10
        obtain rfl := Option.some.inj H
        go_enter Try.func3, Try.ntmps3
        go_wp2_with (first | ((with_reducible refine gate_callee (f := 9) rfl ?_); refine goesL_ (some 7) rfl rfl Try.func9 (by kernel_rfl) rfl #[.string a0] rfl (by (try simp only [List.map_toArray, List.map_cons, List.map_nil]); first | done | rfl | (simp only [List.length_drop, List.length_take]; rfl)) ?_; (with_reducible refine (quipuref11_Runes.calls k a0 t150 _ A3.out).mono ?_); rintro e w' ⟨rfl, ⟨nd, rfl⟩⟩; refine ⟨_, rfl, ?_⟩) | ((with_reducible refine gate_callee (f := 10) rfl ?_); refine goesL_ (some 10) rfl rfl Try.func10 (by kernel_rfl) rfl #[.string a0, .int .i64 a1] rfl (by (try simp only [List.map_toArray, List.map_cons, List.map_nil]); first | done | rfl | (simp only [List.length_drop, List.length_take]; rfl)) ?_; (with_reducible refine (cursor_Rune.calls k a0 a1 t151 _ A4.out).mono ?_); rintro e w' ⟨rfl, ⟨nd, rfl⟩⟩; refine ⟨_, rfl, ?_⟩) | ((with_reducible refine gate_callee (f := 11) rfl ?_); refine goesL_ (some 13) rfl rfl Try.func11 (by kernel_rfl) rfl #[.string a0, .int .i64 a1] rfl (by (try simp only [List.map_toArray, List.map_cons, List.map_nil]); first | done | rfl | (simp only [List.length_drop, List.length_take]; rfl)) ?_; (with_reducible refine (quipuref11_Rune.calls k a0 a1 t152 _ A5.out).mono ?_); rintro e w' ⟨rfl, ⟨nd, rfl⟩⟩; refine ⟨_, rfl, ?_⟩) | (go_at_call 12; (with_reducible refine (cursor_Valid.calls k a0 t153 _ A7.out).mono ?_); rintro e w' ⟨rfl, ⟨nd, rfl⟩⟩) | (go_at_call 13; (with_reducible refine (cursor_Runes.calls k a0 t154 _ A9.out).mono ?_); rintro e w' ⟨rfl, ⟨nd, rfl⟩⟩))
        go_ret
        exact ⟨by first | rfl | (simp [errW_none, errW_some] <;> rfl) | (simp [*, errW_none, errW_some] <;> rfl), by repeat (first | (with_reducible first | exact HB.out | apply below_alloc | apply pw_below_drewN | apply below_drew1) | exact HB.out)⟩
    · rw [if_neg c8] at H
      have c8b0 : (t153 == (decide (t150 ≥ 0))) = false := by simpa using c8
      (try (have c8b1 : decide (t153 = (decide (t150 ≥ 0))) = false := by simpa using c8))
      (try (have c8b2 : (t153 == (decide (t150 ≥ 0))) = false := by simpa using c8))
      (try (have c8b3 : ¬ (t153 = (decide (t150 ≥ 0))) := by simpa using c8))
      clear c8
      obtain rfl := Option.some.inj H
      go_enter Try.func3, Try.ntmps3
      go_wp2_with (first | ((with_reducible refine gate_callee (f := 9) rfl ?_); refine goesL_ (some 7) rfl rfl Try.func9 (by kernel_rfl) rfl #[.string a0] rfl (by (try simp only [List.map_toArray, List.map_cons, List.map_nil]); first | done | rfl | (simp only [List.length_drop, List.length_take]; rfl)) ?_; (with_reducible refine (quipuref11_Runes.calls k a0 t150 _ A3.out).mono ?_); rintro e w' ⟨rfl, ⟨nd, rfl⟩⟩; refine ⟨_, rfl, ?_⟩) | ((with_reducible refine gate_callee (f := 10) rfl ?_); refine goesL_ (some 10) rfl rfl Try.func10 (by kernel_rfl) rfl #[.string a0, .int .i64 a1] rfl (by (try simp only [List.map_toArray, List.map_cons, List.map_nil]); first | done | rfl | (simp only [List.length_drop, List.length_take]; rfl)) ?_; (with_reducible refine (cursor_Rune.calls k a0 a1 t151 _ A4.out).mono ?_); rintro e w' ⟨rfl, ⟨nd, rfl⟩⟩; refine ⟨_, rfl, ?_⟩) | ((with_reducible refine gate_callee (f := 11) rfl ?_); refine goesL_ (some 13) rfl rfl Try.func11 (by kernel_rfl) rfl #[.string a0, .int .i64 a1] rfl (by (try simp only [List.map_toArray, List.map_cons, List.map_nil]); first | done | rfl | (simp only [List.length_drop, List.length_take]; rfl)) ?_; (with_reducible refine (quipuref11_Rune.calls k a0 a1 t152 _ A5.out).mono ?_); rintro e w' ⟨rfl, ⟨nd, rfl⟩⟩; refine ⟨_, rfl, ?_⟩) | (go_at_call 12; (with_reducible refine (cursor_Valid.calls k a0 t153 _ A7.out).mono ?_); rintro e w' ⟨rfl, ⟨nd, rfl⟩⟩))
      go_ret
      exact ⟨by first | rfl | (simp [errW_none, errW_some] <;> rfl) | (simp [*, errW_none, errW_some] <;> rfl), by repeat (first | (with_reducible first | exact HB.out | apply below_alloc | apply pw_below_drewN | apply below_drew1) | exact HB.out)⟩
  · rw [if_neg c6] at H
    have c6b0 : (t151 == t152) = false := beq_eq_false_iff_ne.mpr c6
    have c6b1 : (t151 != t152) = true := bne_iff_ne.mpr c6
    obtain rfl := Option.some.inj H
    go_enter Try.func3, Try.ntmps3
    go_wp2_with (first | ((with_reducible refine gate_callee (f := 9) rfl ?_); refine goesL_ (some 7) rfl rfl Try.func9 (by kernel_rfl) rfl #[.string a0] rfl (by (try simp only [List.map_toArray, List.map_cons, List.map_nil]); first | done | rfl | (simp only [List.length_drop, List.length_take]; rfl)) ?_; (with_reducible refine (quipuref11_Runes.calls k a0 t150 _ A3.out).mono ?_); rintro e w' ⟨rfl, ⟨nd, rfl⟩⟩; refine ⟨_, rfl, ?_⟩) | ((with_reducible refine gate_callee (f := 10) rfl ?_); refine goesL_ (some 10) rfl rfl Try.func10 (by kernel_rfl) rfl #[.string a0, .int .i64 a1] rfl (by (try simp only [List.map_toArray, List.map_cons, List.map_nil]); first | done | rfl | (simp only [List.length_drop, List.length_take]; rfl)) ?_; (with_reducible refine (cursor_Rune.calls k a0 a1 t151 _ A4.out).mono ?_); rintro e w' ⟨rfl, ⟨nd, rfl⟩⟩; refine ⟨_, rfl, ?_⟩) | ((with_reducible refine gate_callee (f := 11) rfl ?_); refine goesL_ (some 13) rfl rfl Try.func11 (by kernel_rfl) rfl #[.string a0, .int .i64 a1] rfl (by (try simp only [List.map_toArray, List.map_cons, List.map_nil]); first | done | rfl | (simp only [List.length_drop, List.length_take]; rfl)) ?_; (with_reducible refine (quipuref11_Rune.calls k a0 a1 t152 _ A5.out).mono ?_); rintro e w' ⟨rfl, ⟨nd, rfl⟩⟩; refine ⟨_, rfl, ?_⟩))
    go_ret
    exact ⟨by first | rfl | (simp [errW_none, errW_some] <;> rfl) | (simp [*, errW_none, errW_some] <;> rfl), by repeat (first | (with_reducible first | exact HB.out | apply below_alloc | apply pw_below_drewN | apply below_drew1) | exact HB.out)⟩

/-- THE ONE PURE STATEMENT of quipulaw11_CursorRunes: yours. -/
def quipulaw11_CursorRunes.Pure : Prop := ∀ (a0 : ByteArray) (a1 : Int), a0.size ≤ 140737488351232 → (Lit.int .i64 a1).wf = true → ∃ k, quipulaw11_CursorRunes.f k a0 a1 = some true
theorem quipulaw11_CursorRunes.walk (P : quipulaw11_CursorRunes.Pure) (a0 : ByteArray) (a1 : Int) (w : World) (w0 : a0.size ≤ 140737488351232) (w1 : (Lit.int .i64 a1).wf = true) :
    Calls Try.prog 3 #[.string a0, .int .i64 a1] w fun e w' => e = .returned (.bool true) ∧ Below w.heap.size w w' := by
  obtain ⟨k, h⟩ := P a0 a1 w0 w1
  refine (quipulaw11_CursorRunes.calls k a0 a1 true w h).mono ?_
  rintro e w' ⟨rfl, hd⟩
  exact ⟨rfl, hd⟩

/-! ### quipulaw11_CursorJoins: function 4 -/
mutual
def quipulaw11_CursorJoins.j0 : Nat → ByteArray → Bool → Option (Bool)
  | 0, _, _ => none
  | k + 1, x0, x48 => if x48 = true then (some false) else (quipulaw11_CursorJoins.l0 k x0 0)
def quipulaw11_CursorJoins.l0 : Nat → ByteArray → Int → Option (Bool)
  | 0, _, _ => none
  | k + 1, x0, x8 => if x8 < (x0.size : Int) then (quipulaw11_CursorJoins.j2 k x0 x8 (decide (x8 < 100))) else (quipulaw11_CursorJoins.j2 k x0 x8 false)
def quipulaw11_CursorJoins.j2 : Nat → ByteArray → Int → Bool → Option (Bool)
  | 0, _, _, _ => none
  | k + 1, x0, x8, x56 => if x56 = true then ((cursor_Rune.f k x0 x8).bind fun t160 => (if t160 < 0 then (some false) else (if t160 > 4 then (some false) else (if t160 > (wrap64 ((x0.size : Int) - x8)) then (some false) else (if t160 > 0 then (if 0 ≤ x8 then (if x8 ≤ (wrap64 (x8 + t160)) then (if (wrap64 (x8 + t160)) ≤ (x0.size : Int) then ((cursor_Runes.f k (x0.extract (x8 : Int).toNat ((wrap64 (x8 + t160)) : Int).toNat)).bind fun t161 => (if t161 = 1 then (if t160 > 1 then (if x8 ≤ (wrap64 ((wrap64 (x8 + t160)) - 1)) then (if (wrap64 ((wrap64 (x8 + t160)) - 1)) ≤ (x0.size : Int) then ((cursor_Rune.f k (x0.extract (x8 : Int).toNat ((wrap64 ((wrap64 (x8 + t160)) - 1)) : Int).toNat) 0).bind fun t162 => (if t162 = 0 then (quipulaw11_CursorJoins.l0 k x0 (wrap64 (x8 + 1))) else (some false))) else (none)) else (none)) else (quipulaw11_CursorJoins.l0 k x0 (wrap64 (x8 + 1)))) else (some false))) else (none)) else (none)) else (none)) else (quipulaw11_CursorJoins.l0 k x0 (wrap64 (x8 + 1)))))))) else ((quipulaw11_fixed.f k).bind fun t159 => (some t159))
end
def quipulaw11_CursorJoins.f (k : Nat) (a0 : ByteArray) (a1 : ByteArray) : Option (Bool) := (cursor_Runes.f k a0).bind fun t156 => ((cursor_Runes.f k a1).bind fun t157 => (if a0.size + a1.size ≤ 9223372036854775807 then ((cursor_Runes.f k (a0 ++ a1)).bind fun t158 => (if t156 ≥ 0 then (if t157 ≥ 0 then (if t158 = (wrap64 (t156 + t157)) then (if t157 < 0 then (if t158 = (-1) then (quipulaw11_CursorJoins.j0 k a0 (decide (t156 > (a0.size : Int)))) else (quipulaw11_CursorJoins.j0 k a0 true)) else (quipulaw11_CursorJoins.j0 k a0 (decide (t156 > (a0.size : Int))))) else (quipulaw11_CursorJoins.j0 k a0 true)) else (if t157 < 0 then (if t158 = (-1) then (quipulaw11_CursorJoins.j0 k a0 (decide (t156 > (a0.size : Int)))) else (quipulaw11_CursorJoins.j0 k a0 true)) else (quipulaw11_CursorJoins.j0 k a0 (decide (t156 > (a0.size : Int)))))) else (quipulaw11_CursorJoins.j0 k a0 (decide (t156 > (a0.size : Int)))))) else (none)))
theorem quipulaw11_CursorJoins.mono_l : ∀ k, (∀ y0 y1, LeO (quipulaw11_CursorJoins.j0 k y0 y1) (quipulaw11_CursorJoins.j0 (k + 1) y0 y1)) ∧ (∀ y0 y1, LeO (quipulaw11_CursorJoins.l0 k y0 y1) (quipulaw11_CursorJoins.l0 (k + 1) y0 y1)) ∧ (∀ y0 y1 y2, LeO (quipulaw11_CursorJoins.j2 k y0 y1 y2) (quipulaw11_CursorJoins.j2 (k + 1) y0 y1 y2))
  | 0 => ⟨fun _ _ r h => by simp [quipulaw11_CursorJoins.j0] at h, fun _ _ r h => by simp [quipulaw11_CursorJoins.l0] at h, fun _ _ _ r h => by simp [quipulaw11_CursorJoins.j2] at h⟩
  | k + 1 => by
    obtain ⟨ih0, ih1, ih2⟩ := quipulaw11_CursorJoins.mono_l k
    refine ⟨?_, ?_, ?_⟩
    · intro y0 y1
      unfold quipulaw11_CursorJoins.j0
      repeat' first
      | (with_reducible exact ih0 _ _)
      | (with_reducible exact ih1 _ _)
      | (with_reducible exact ih2 _ _ _)
      | (with_reducible exact cursor_Rune.mono _ _ _)
      | (with_reducible exact cursor_Runes.mono _ _)
      | (with_reducible exact quipulaw11_fixed.mono _)
      | (with_reducible exact LeO.refl _)
      | (with_reducible exact LeO.none _)
      | (with_reducible refine LeO.ite ?_ ?_)
      | (with_reducible refine LeO.bind ?_ (fun _ => ?_))
      | exact ih0 _ _
      | exact ih1 _ _
      | exact ih2 _ _ _
      | exact cursor_Rune.mono _ _ _
      | exact cursor_Runes.mono _ _
      | exact quipulaw11_fixed.mono _
      | exact LeO.none _
      | refine LeO.ite ?_ ?_
      | refine LeO.bind ?_ (fun _ => ?_)
    · intro y0 y1
      unfold quipulaw11_CursorJoins.l0
      repeat' first
      | (with_reducible exact ih0 _ _)
      | (with_reducible exact ih1 _ _)
      | (with_reducible exact ih2 _ _ _)
      | (with_reducible exact cursor_Rune.mono _ _ _)
      | (with_reducible exact cursor_Runes.mono _ _)
      | (with_reducible exact quipulaw11_fixed.mono _)
      | (with_reducible exact LeO.refl _)
      | (with_reducible exact LeO.none _)
      | (with_reducible refine LeO.ite ?_ ?_)
      | (with_reducible refine LeO.bind ?_ (fun _ => ?_))
      | exact ih0 _ _
      | exact ih1 _ _
      | exact ih2 _ _ _
      | exact cursor_Rune.mono _ _ _
      | exact cursor_Runes.mono _ _
      | exact quipulaw11_fixed.mono _
      | exact LeO.none _
      | refine LeO.ite ?_ ?_
      | refine LeO.bind ?_ (fun _ => ?_)
    · intro y0 y1 y2
      unfold quipulaw11_CursorJoins.j2
      repeat' first
      | (with_reducible exact ih0 _ _)
      | (with_reducible exact ih1 _ _)
      | (with_reducible exact ih2 _ _ _)
      | (with_reducible exact cursor_Rune.mono _ _ _)
      | (with_reducible exact cursor_Runes.mono _ _)
      | (with_reducible exact quipulaw11_fixed.mono _)
      | (with_reducible exact LeO.refl _)
      | (with_reducible exact LeO.none _)
      | (with_reducible refine LeO.ite ?_ ?_)
      | (with_reducible refine LeO.bind ?_ (fun _ => ?_))
      | exact ih0 _ _
      | exact ih1 _ _
      | exact ih2 _ _ _
      | exact cursor_Rune.mono _ _ _
      | exact cursor_Runes.mono _ _
      | exact quipulaw11_fixed.mono _
      | exact LeO.none _
      | refine LeO.ite ?_ ?_
      | refine LeO.bind ?_ (fun _ => ?_)
theorem quipulaw11_CursorJoins.mono : ∀ a0 a1 k, LeO (quipulaw11_CursorJoins.f k a0 a1) (quipulaw11_CursorJoins.f (k + 1) a0 a1) := by
  intro a0 a1 k
  obtain ⟨ih0, ih1, ih2⟩ := quipulaw11_CursorJoins.mono_l k
  unfold quipulaw11_CursorJoins.f
  repeat' first
      | (with_reducible exact ih0 _ _)
      | (with_reducible exact ih1 _ _)
      | (with_reducible exact ih2 _ _ _)
      | (with_reducible exact cursor_Rune.mono _ _ _)
      | (with_reducible exact cursor_Runes.mono _ _)
      | (with_reducible exact quipulaw11_fixed.mono _)
      | (with_reducible exact LeO.refl _)
      | (with_reducible exact LeO.none _)
      | (with_reducible refine LeO.ite ?_ ?_)
      | (with_reducible refine LeO.bind ?_ (fun _ => ?_))
      | exact ih0 _ _
      | exact ih1 _ _
      | exact ih2 _ _ _
      | exact cursor_Rune.mono _ _ _
      | exact cursor_Runes.mono _ _
      | exact quipulaw11_fixed.mono _
      | exact LeO.none _
      | refine LeO.ite ?_ ?_
      | refine LeO.bind ?_ (fun _ => ?_)
set_option maxHeartbeats 8000000 in
set_option maxRecDepth 100000 in
theorem quipulaw11_CursorJoins.calls (k : Nat) (a0 : ByteArray) (a1 : ByteArray) (r : Bool) (w : World) (h : quipulaw11_CursorJoins.f k a0 a1 = some r) :
    Calls Try.prog 4 #[.string a0, .string a1] w fun e w' => e = .returned (.bool r) ∧ Below w.heap.size w w' := by
  have HB := Aside0.mk (Below.refl w.heap.size w)
  have H : ((cursor_Runes.f k a0).bind fun t156 => ((cursor_Runes.f k a1).bind fun t157 => (if a0.size + a1.size ≤ 9223372036854775807 then ((cursor_Runes.f k (a0 ++ a1)).bind fun t158 => (if t156 ≥ 0 then (if t157 ≥ 0 then (if t158 = (wrap64 (t156 + t157)) then (if t157 < 0 then (if t158 = (-1) then (quipulaw11_CursorJoins.j0 k a0 (decide (t156 > (a0.size : Int)))) else (quipulaw11_CursorJoins.j0 k a0 true)) else (quipulaw11_CursorJoins.j0 k a0 (decide (t156 > (a0.size : Int))))) else (quipulaw11_CursorJoins.j0 k a0 true)) else (if t157 < 0 then (if t158 = (-1) then (quipulaw11_CursorJoins.j0 k a0 (decide (t156 > (a0.size : Int)))) else (quipulaw11_CursorJoins.j0 k a0 true)) else (quipulaw11_CursorJoins.j0 k a0 (decide (t156 > (a0.size : Int)))))) else (quipulaw11_CursorJoins.j0 k a0 (decide (t156 > (a0.size : Int)))))) else (none)))) = some r := h
  clear h
  replace H := Option.bind_eq_some_iff.mp H
  obtain ⟨t156, A30, H⟩ := H
  replace H : ((cursor_Runes.f k a1).bind fun t157 => (if a0.size + a1.size ≤ 9223372036854775807 then ((cursor_Runes.f k (a0 ++ a1)).bind fun t158 => (if t156 ≥ 0 then (if t157 ≥ 0 then (if t158 = (wrap64 (t156 + t157)) then (if t157 < 0 then (if t158 = (-1) then (quipulaw11_CursorJoins.j0 k a0 (decide (t156 > (a0.size : Int)))) else (quipulaw11_CursorJoins.j0 k a0 true)) else (quipulaw11_CursorJoins.j0 k a0 (decide (t156 > (a0.size : Int))))) else (quipulaw11_CursorJoins.j0 k a0 true)) else (if t157 < 0 then (if t158 = (-1) then (quipulaw11_CursorJoins.j0 k a0 (decide (t156 > (a0.size : Int)))) else (quipulaw11_CursorJoins.j0 k a0 true)) else (quipulaw11_CursorJoins.j0 k a0 (decide (t156 > (a0.size : Int)))))) else (quipulaw11_CursorJoins.j0 k a0 (decide (t156 > (a0.size : Int)))))) else (none))) = some r := H
  have A3 := Aside0.mk A30
  clear A30
  replace H := Option.bind_eq_some_iff.mp H
  obtain ⟨t157, A40, H⟩ := H
  replace H : (if a0.size + a1.size ≤ 9223372036854775807 then ((cursor_Runes.f k (a0 ++ a1)).bind fun t158 => (if t156 ≥ 0 then (if t157 ≥ 0 then (if t158 = (wrap64 (t156 + t157)) then (if t157 < 0 then (if t158 = (-1) then (quipulaw11_CursorJoins.j0 k a0 (decide (t156 > (a0.size : Int)))) else (quipulaw11_CursorJoins.j0 k a0 true)) else (quipulaw11_CursorJoins.j0 k a0 (decide (t156 > (a0.size : Int))))) else (quipulaw11_CursorJoins.j0 k a0 true)) else (if t157 < 0 then (if t158 = (-1) then (quipulaw11_CursorJoins.j0 k a0 (decide (t156 > (a0.size : Int)))) else (quipulaw11_CursorJoins.j0 k a0 true)) else (quipulaw11_CursorJoins.j0 k a0 (decide (t156 > (a0.size : Int)))))) else (quipulaw11_CursorJoins.j0 k a0 (decide (t156 > (a0.size : Int)))))) else (none)) = some r := H
  have A4 := Aside0.mk A40
  clear A40
  by_cases c5 : a0.size + a1.size ≤ 9223372036854775807
  · rw [if_pos c5] at H
    have c5b0 := eq_true c5
    have c5b1 : decide (a0.size + a1.size ≤ 9223372036854775807) = true := decide_eq_true c5
    try have c5b2 : (9223372036854775807 < a0.size + a1.size) = False := eq_false (Nat.not_lt.2 c5)
    replace H := Option.bind_eq_some_iff.mp H
    obtain ⟨t158, A60, H⟩ := H
    replace H : (if t156 ≥ 0 then (if t157 ≥ 0 then (if t158 = (wrap64 (t156 + t157)) then (if t157 < 0 then (if t158 = (-1) then (quipulaw11_CursorJoins.j0 k a0 (decide (t156 > (a0.size : Int)))) else (quipulaw11_CursorJoins.j0 k a0 true)) else (quipulaw11_CursorJoins.j0 k a0 (decide (t156 > (a0.size : Int))))) else (quipulaw11_CursorJoins.j0 k a0 true)) else (if t157 < 0 then (if t158 = (-1) then (quipulaw11_CursorJoins.j0 k a0 (decide (t156 > (a0.size : Int)))) else (quipulaw11_CursorJoins.j0 k a0 true)) else (quipulaw11_CursorJoins.j0 k a0 (decide (t156 > (a0.size : Int)))))) else (quipulaw11_CursorJoins.j0 k a0 (decide (t156 > (a0.size : Int))))) = some r := H
    have A6 := Aside0.mk A60
    clear A60
    have HC7 := Aside0.mk H
    clear H
    go_enter Try.func4, Try.ntmps4
    go_upto_region 3 with (first | ((with_reducible refine gate_callee (f := 13) rfl ?_); refine goesL_ (some 11) rfl rfl Try.func13 (by kernel_rfl) rfl #[.string a0] rfl (by (try simp only [List.map_toArray, List.map_cons, List.map_nil]); first | done | rfl | (simp only [List.length_drop, List.length_take]; rfl)) ?_; (with_reducible refine (cursor_Runes.calls k a0 t156 _ A3.out).mono ?_); rintro e w' ⟨rfl, ⟨nd, rfl⟩⟩; refine ⟨_, rfl, ?_⟩) | ((with_reducible refine gate_callee (f := 13) rfl ?_); refine goesL_ (some 13) rfl rfl Try.func13 (by kernel_rfl) rfl #[.string a1] rfl (by (try simp only [List.map_toArray, List.map_cons, List.map_nil]); first | done | rfl | (simp only [List.length_drop, List.length_take]; rfl)) ?_; (with_reducible refine (cursor_Runes.calls k a1 t157 _ A4.out).mono ?_); rintro e w' ⟨rfl, ⟨nd, rfl⟩⟩; refine ⟨_, rfl, ?_⟩) | ((with_reducible refine gate_callee (f := 13) rfl ?_); refine goesL_ (some 17) rfl rfl Try.func13 (by kernel_rfl) rfl #[.string (a0 ++ a1)] rfl (by (try simp only [List.map_toArray, List.map_cons, List.map_nil]); first | done | rfl | (simp only [List.length_drop, List.length_take]; rfl)) ?_; (with_reducible refine (cursor_Runes.calls k (a0 ++ a1) t158 _ A6.out).mono ?_); rintro e w' ⟨rfl, ⟨nd, rfl⟩⟩; refine ⟨_, rfl, ?_⟩))
    (try simp only [Act.put, List.setIfInBounds_toArray, List.set_cons_zero, List.set_cons_succ])
    go_cut [48] (fun v48 wc => ∃ (kq : Nat) (x48_6 : Bool), v48 = .bool x48_6 ∧ Aside0 (quipulaw11_CursorJoins.j0 kq a0 x48_6 = some r) ∧ Aside0 (kq ≤ k) ∧ Aside0 (Below w.heap.size w wc))
    case first =>
      have H := HC7.out
      clear HC7
      by_cases c8 : t156 ≥ 0
      · rw [if_pos c8] at H
        have c8b0 : decide (0 ≤ t156) = true := decide_eq_true c8
        clear c8
        (first | rw [c8b0] | (simp only [i64_w, i32_w]; rw [c8b0]) | skip)
        by_cases c9 : t157 ≥ 0
        · rw [if_pos c9] at H
          have c9b0 : decide (0 ≤ t157) = true := decide_eq_true c9
          clear c9
          by_cases c10 : t158 = (wrap64 (t156 + t157))
          · rw [if_pos c10] at H
            have c10b0 : (t158 == (wrap64 (t156 + t157))) = true := beq_iff_eq.mpr c10
            have c10b1 : (t158 != (wrap64 (t156 + t157))) = false := bne_eq_false_iff_eq.mpr c10
            clear c10
            by_cases c11 : t157 < 0
            · rw [if_pos c11] at H
              have c11b0 : decide (t157 < 0) = true := decide_eq_true c11
              clear c11
              by_cases c12 : t158 = (-1)
              · rw [if_pos c12] at H
                have c12b0 : (t158 == (-1)) = true := beq_iff_eq.mpr c12
                have c12b1 : (t158 != (-1)) = false := bne_eq_false_iff_eq.mpr c12
                clear c12
                have H' := Aside0.mk H
                clear H
                go_wp2
                go_meet
                case rel => exact ⟨_, (decide (t156 > (a0.size : Int))), (by first | rfl | (simp; done) | (simp [*]; done)), H', ⟨by first | omega | exact Nat.le_refl _⟩, ⟨by repeat (first | (with_reducible first | exact HB.out | apply below_alloc | apply pw_below_drewN | apply below_drew1) | exact HB.out)⟩⟩
              · rw [if_neg c12] at H
                have c12b0 : (t158 == (-1)) = false := beq_eq_false_iff_ne.mpr c12
                have c12b1 : (t158 != (-1)) = true := bne_iff_ne.mpr c12
                have H' := Aside0.mk H
                clear H
                go_wp2
                go_meet
                case rel => exact ⟨_, (true), (by first | rfl | (simp; done) | (simp [*]; done)), H', ⟨by first | omega | exact Nat.le_refl _⟩, ⟨by repeat (first | (with_reducible first | exact HB.out | apply below_alloc | apply pw_below_drewN | apply below_drew1) | exact HB.out)⟩⟩
            · rw [if_neg c11] at H
              have c11b0 : decide (t157 < 0) = false := decide_eq_false c11
              clear c11
              have H' := Aside0.mk H
              clear H
              go_wp2
              go_meet
              case rel => exact ⟨_, (decide (t156 > (a0.size : Int))), (by first | rfl | (simp; done) | (simp [*]; done)), H', ⟨by first | omega | exact Nat.le_refl _⟩, ⟨by repeat (first | (with_reducible first | exact HB.out | apply below_alloc | apply pw_below_drewN | apply below_drew1) | exact HB.out)⟩⟩
          · rw [if_neg c10] at H
            have c10b0 : (t158 == (wrap64 (t156 + t157))) = false := beq_eq_false_iff_ne.mpr c10
            have c10b1 : (t158 != (wrap64 (t156 + t157))) = true := bne_iff_ne.mpr c10
            have H' := Aside0.mk H
            clear H
            go_wp2
            go_meet
            case rel => exact ⟨_, (true), (by first | rfl | (simp; done) | (simp [*]; done)), H', ⟨by first | omega | exact Nat.le_refl _⟩, ⟨by repeat (first | (with_reducible first | exact HB.out | apply below_alloc | apply pw_below_drewN | apply below_drew1) | exact HB.out)⟩⟩
        · rw [if_neg c9] at H
          have c9b0 : decide (0 ≤ t157) = false := decide_eq_false c9
          clear c9
          by_cases c13 : t157 < 0
          · rw [if_pos c13] at H
            have c13b0 : decide (t157 < 0) = true := decide_eq_true c13
            clear c13
            by_cases c14 : t158 = (-1)
            · rw [if_pos c14] at H
              have c14b0 : (t158 == (-1)) = true := beq_iff_eq.mpr c14
              have c14b1 : (t158 != (-1)) = false := bne_eq_false_iff_eq.mpr c14
              clear c14
              have H' := Aside0.mk H
              clear H
              go_wp2
              go_meet
              case rel => exact ⟨_, (decide (t156 > (a0.size : Int))), (by first | rfl | (simp; done) | (simp [*]; done)), H', ⟨by first | omega | exact Nat.le_refl _⟩, ⟨by repeat (first | (with_reducible first | exact HB.out | apply below_alloc | apply pw_below_drewN | apply below_drew1) | exact HB.out)⟩⟩
            · rw [if_neg c14] at H
              have c14b0 : (t158 == (-1)) = false := beq_eq_false_iff_ne.mpr c14
              have c14b1 : (t158 != (-1)) = true := bne_iff_ne.mpr c14
              have H' := Aside0.mk H
              clear H
              go_wp2
              go_meet
              case rel => exact ⟨_, (true), (by first | rfl | (simp; done) | (simp [*]; done)), H', ⟨by first | omega | exact Nat.le_refl _⟩, ⟨by repeat (first | (with_reducible first | exact HB.out | apply below_alloc | apply pw_below_drewN | apply below_drew1) | exact HB.out)⟩⟩
          · rw [if_neg c13] at H
            have c13b0 : decide (t157 < 0) = false := decide_eq_false c13
            clear c13
            have H' := Aside0.mk H
            clear H
            go_wp2
            go_meet
            case rel => exact ⟨_, (decide (t156 > (a0.size : Int))), (by first | rfl | (simp; done) | (simp [*]; done)), H', ⟨by first | omega | exact Nat.le_refl _⟩, ⟨by repeat (first | (with_reducible first | exact HB.out | apply below_alloc | apply pw_below_drewN | apply below_drew1) | exact HB.out)⟩⟩
      · rw [if_neg c8] at H
        have c8b0 : decide (0 ≤ t156) = false := decide_eq_false c8
        clear c8
        (first | rw [c8b0] | (simp only [i64_w, i32_w]; rw [c8b0]) | skip)
        have H' := Aside0.mk H
        clear H
        go_wp2
        go_meet
        case rel => exact ⟨_, (decide (t156 > (a0.size : Int))), (by first | rfl | (simp; done) | (simp [*]; done)), H', ⟨by first | omega | exact Nat.le_refl _⟩, ⟨by repeat (first | (with_reducible first | exact HB.out | apply below_alloc | apply pw_below_drewN | apply below_drew1) | exact HB.out)⟩⟩
    case rest =>
      clear HC7
      try clear c1
      try clear p2
      try clear c4
      try clear c5
      try clear c5b0
      try clear c5b1
      try clear c5b2
      try clear p6
      try clear c8
      try clear c8b0
      try clear c9
      try clear c9b0
      try clear c10
      try clear c10b0
      try clear c10b1
      try clear c11
      try clear c11b0
      try clear c12
      try clear c12b0
      try clear c12b1
      try clear c13
      try clear c13b0
      try clear c14
      try clear c14b0
      try clear c14b1
      obtain ⟨kq, x48_6, rfl, HA, HJ6, HB⟩ := hcut
      cases kq with
      | zero => exact absurd HA.out (by simp [quipulaw11_CursorJoins.j0])
      | succ kj6 =>
        have H := HA.out
        clear HA
        simp only [quipulaw11_CursorJoins.j0] at H
        by_cases c15 : x48_6 = true
        · subst c15
          have H1 : (some false) = some r := by rw [if_pos rfl] at H; exact H
          clear H
          have H := H1
          clear H1
          obtain rfl := Option.some.inj H
          go_wp2
          go_ret
          exact ⟨by first | rfl | (simp [errW_none, errW_some] <;> rfl) | (simp [*, errW_none, errW_some] <;> rfl), by repeat (first | (with_reducible first | exact HB.out | apply below_alloc | apply pw_below_drewN | apply below_drew1) | exact HB.out)⟩
        · replace c15 := Bool.eq_false_iff.mpr c15
          subst c15
          have H1 : (quipulaw11_CursorJoins.l0 kj6 a0 0) = some r := by rw [if_neg (show ¬ (false = true) by decide)] at H; exact H
          clear H
          have H := H1
          clear H1
          have H' := Aside0.mk H
          clear H
          go_wp2
          go_loopg [8] kj6 (fun kq v8 w' => ∃ (x8_2 : Int), v8 = .int .i64 x8_2 ∧ Aside0 (quipulaw11_CursorJoins.l0 kq a0 x8_2 = some r) ∧ Aside0 (kq ≤ kj6) ∧ Aside0 (Below w.heap.size w w'))
          case atStart => exact ⟨(0), (by first | rfl | (simp; done) | (simp [*]; done)), H', ⟨Nat.le_refl _⟩, ⟨by repeat (first | (with_reducible first | exact HB.out | apply below_alloc | apply pw_below_drewN | apply below_drew1) | exact HB.out)⟩⟩
          case round =>
            clear H'
            try clear c1
            try clear p2
            try clear c4
            try clear c5
            try clear c5b0
            try clear c5b1
            try clear c5b2
            try clear p6
            try clear c8
            try clear c8b0
            try clear c9
            try clear c9b0
            try clear c10
            try clear c10b0
            try clear c10b1
            try clear c11
            try clear c11b0
            try clear c12
            try clear c12b0
            try clear c12b1
            try clear c13
            try clear c13b0
            try clear c14
            try clear c14b0
            try clear c14b1
            try clear c15
            try clear p2
            try clear p6
            obtain ⟨x8_2, rfl, HA, HK2, HB⟩ := hrel
            cases gk with
            | zero => exact absurd HA.out (by simp [quipulaw11_CursorJoins.l0])
            | succ k2 =>
              have H := HA.out
              clear HA
              simp only [quipulaw11_CursorJoins.l0] at H
              have HC16 := Aside0.mk H
              clear H
              go_upto_region 6 with (fail)
              go_cut [56] (fun v56 wc => ∃ (kq : Nat) (x56_15 : Bool), v56 = .bool x56_15 ∧ Aside0 (quipulaw11_CursorJoins.j2 kq a0 x8_2 x56_15 = some r) ∧ Aside0 (kq ≤ k2) ∧ Aside0 (Below w.heap.size w wc))
              case first =>
                have H := HC16.out
                clear HC16
                by_cases c17 : x8_2 < (a0.size : Int)
                · rw [if_pos c17] at H
                  have c17b0 : decide (x8_2 < (a0.size : Int)) = true := decide_eq_true c17
                  clear c17
                  (first | rw [c17b0] | (simp only [i64_w, i32_w]; rw [c17b0]) | skip)
                  have H' := Aside0.mk H
                  clear H
                  go_wp2
                  go_meet
                  case rel => exact ⟨_, (decide (x8_2 < 100)), (by first | rfl | (simp; done) | (simp [*]; done)), H', ⟨by have := HJ6.out; have := HK2.out; first | omega | exact Nat.le_refl _⟩, ⟨by repeat (first | (with_reducible first | exact HB.out | apply below_alloc | apply pw_below_drewN | apply below_drew1) | exact HB.out)⟩⟩
                · rw [if_neg c17] at H
                  have c17b0 : decide (x8_2 < (a0.size : Int)) = false := decide_eq_false c17
                  clear c17
                  (first | rw [c17b0] | (simp only [i64_w, i32_w]; rw [c17b0]) | skip)
                  have H' := Aside0.mk H
                  clear H
                  go_wp2
                  go_meet
                  case rel => exact ⟨_, (false), (by first | rfl | (simp; done) | (simp [*]; done)), H', ⟨by have := HJ6.out; have := HK2.out; first | omega | exact Nat.le_refl _⟩, ⟨by repeat (first | (with_reducible first | exact HB.out | apply below_alloc | apply pw_below_drewN | apply below_drew1) | exact HB.out)⟩⟩
              case rest =>
                clear HC16
                try clear c1
                try clear p2
                try clear c4
                try clear c5
                try clear c5b0
                try clear c5b1
                try clear c5b2
                try clear p6
                try clear c8
                try clear c8b0
                try clear c9
                try clear c9b0
                try clear c10
                try clear c10b0
                try clear c10b1
                try clear c11
                try clear c11b0
                try clear c12
                try clear c12b0
                try clear c12b1
                try clear c13
                try clear c13b0
                try clear c14
                try clear c14b0
                try clear c14b1
                try clear c15
                try clear c17
                try clear c17b0
                try clear p2
                try clear p6
                obtain ⟨kq, x56_15, rfl, HA, HJ15, HB⟩ := hcut
                cases kq with
                | zero => exact absurd HA.out (by simp [quipulaw11_CursorJoins.j2])
                | succ kj15 =>
                  have H := HA.out
                  clear HA
                  simp only [quipulaw11_CursorJoins.j2] at H
                  by_cases c18 : x56_15 = true
                  · subst c18
                    have H1 : ((cursor_Rune.f kj15 a0 x8_2).bind fun t160 => (if t160 < 0 then (some false) else (if t160 > 4 then (some false) else (if t160 > (wrap64 ((a0.size : Int) - x8_2)) then (some false) else (if t160 > 0 then (if 0 ≤ x8_2 then (if x8_2 ≤ (wrap64 (x8_2 + t160)) then (if (wrap64 (x8_2 + t160)) ≤ (a0.size : Int) then ((cursor_Runes.f kj15 (a0.extract (x8_2 : Int).toNat ((wrap64 (x8_2 + t160)) : Int).toNat)).bind fun t161 => (if t161 = 1 then (if t160 > 1 then (if x8_2 ≤ (wrap64 ((wrap64 (x8_2 + t160)) - 1)) then (if (wrap64 ((wrap64 (x8_2 + t160)) - 1)) ≤ (a0.size : Int) then ((cursor_Rune.f kj15 (a0.extract (x8_2 : Int).toNat ((wrap64 ((wrap64 (x8_2 + t160)) - 1)) : Int).toNat) 0).bind fun t162 => (if t162 = 0 then (quipulaw11_CursorJoins.l0 kj15 a0 (wrap64 (x8_2 + 1))) else (some false))) else (none)) else (none)) else (quipulaw11_CursorJoins.l0 kj15 a0 (wrap64 (x8_2 + 1)))) else (some false))) else (none)) else (none)) else (none)) else (quipulaw11_CursorJoins.l0 kj15 a0 (wrap64 (x8_2 + 1)))))))) = some r := by rw [if_pos rfl] at H; exact H
                    clear H
                    have H := H1
                    clear H1
                    replace H := Option.bind_eq_some_iff.mp H
                    obtain ⟨t160, A190, H⟩ := H
                    replace H : (if t160 < 0 then (some false) else (if t160 > 4 then (some false) else (if t160 > (wrap64 ((a0.size : Int) - x8_2)) then (some false) else (if t160 > 0 then (if 0 ≤ x8_2 then (if x8_2 ≤ (wrap64 (x8_2 + t160)) then (if (wrap64 (x8_2 + t160)) ≤ (a0.size : Int) then ((cursor_Runes.f kj15 (a0.extract (x8_2 : Int).toNat ((wrap64 (x8_2 + t160)) : Int).toNat)).bind fun t161 => (if t161 = 1 then (if t160 > 1 then (if x8_2 ≤ (wrap64 ((wrap64 (x8_2 + t160)) - 1)) then (if (wrap64 ((wrap64 (x8_2 + t160)) - 1)) ≤ (a0.size : Int) then ((cursor_Rune.f kj15 (a0.extract (x8_2 : Int).toNat ((wrap64 ((wrap64 (x8_2 + t160)) - 1)) : Int).toNat) 0).bind fun t162 => (if t162 = 0 then (quipulaw11_CursorJoins.l0 kj15 a0 (wrap64 (x8_2 + 1))) else (some false))) else (none)) else (none)) else (quipulaw11_CursorJoins.l0 kj15 a0 (wrap64 (x8_2 + 1)))) else (some false))) else (none)) else (none)) else (none)) else (quipulaw11_CursorJoins.l0 kj15 a0 (wrap64 (x8_2 + 1))))))) = some r := H
                    have A19 := Aside0.mk A190
                    clear A190
                    by_cases c20 : t160 < 0
                    · rw [if_pos c20] at H
                      have c20b0 : decide (t160 < 0) = true := decide_eq_true c20
                      clear c20
                      obtain rfl := Option.some.inj H
                      go_wp2_with (first | ((with_reducible refine gate_callee (f := 10) rfl ?_); refine goesL_ (some 61) rfl rfl Try.func10 (by kernel_rfl) rfl #[.string a0, .int .i64 x8_2] rfl (by (try simp only [List.map_toArray, List.map_cons, List.map_nil]); first | done | rfl | (simp only [List.length_drop, List.length_take]; rfl)) ?_; (with_reducible refine (cursor_Rune.calls kj15 a0 x8_2 t160 _ A19.out).mono ?_); rintro e w' ⟨rfl, ⟨nd, rfl⟩⟩; refine ⟨_, rfl, ?_⟩))
                      go_ret
                      exact ⟨by first | rfl | (simp [errW_none, errW_some] <;> rfl) | (simp [*, errW_none, errW_some] <;> rfl), by repeat (first | (with_reducible first | exact HB.out | apply below_alloc | apply pw_below_drewN | apply below_drew1) | exact HB.out)⟩
                    · rw [if_neg c20] at H
                      have c20b0 : decide (t160 < 0) = false := decide_eq_false c20
                      clear c20
                      by_cases c21 : t160 > 4
                      · rw [if_pos c21] at H
                        have c21b0 : decide (4 < t160) = true := decide_eq_true c21
                        clear c21
                        obtain rfl := Option.some.inj H
                        go_wp2_with (first | ((with_reducible refine gate_callee (f := 10) rfl ?_); refine goesL_ (some 61) rfl rfl Try.func10 (by kernel_rfl) rfl #[.string a0, .int .i64 x8_2] rfl (by (try simp only [List.map_toArray, List.map_cons, List.map_nil]); first | done | rfl | (simp only [List.length_drop, List.length_take]; rfl)) ?_; (with_reducible refine (cursor_Rune.calls kj15 a0 x8_2 t160 _ A19.out).mono ?_); rintro e w' ⟨rfl, ⟨nd, rfl⟩⟩; refine ⟨_, rfl, ?_⟩))
                        go_ret
                        exact ⟨by first | rfl | (simp [errW_none, errW_some] <;> rfl) | (simp [*, errW_none, errW_some] <;> rfl), by repeat (first | (with_reducible first | exact HB.out | apply below_alloc | apply pw_below_drewN | apply below_drew1) | exact HB.out)⟩
                      · rw [if_neg c21] at H
                        have c21b0 : decide (4 < t160) = false := decide_eq_false c21
                        clear c21
                        by_cases c22 : t160 > (wrap64 ((a0.size : Int) - x8_2))
                        · rw [if_pos c22] at H
                          have c22b0 : decide ((wrap64 ((a0.size : Int) - x8_2)) < t160) = true := decide_eq_true c22
                          clear c22
                          obtain rfl := Option.some.inj H
                          go_wp2_with (first | ((with_reducible refine gate_callee (f := 10) rfl ?_); refine goesL_ (some 61) rfl rfl Try.func10 (by kernel_rfl) rfl #[.string a0, .int .i64 x8_2] rfl (by (try simp only [List.map_toArray, List.map_cons, List.map_nil]); first | done | rfl | (simp only [List.length_drop, List.length_take]; rfl)) ?_; (with_reducible refine (cursor_Rune.calls kj15 a0 x8_2 t160 _ A19.out).mono ?_); rintro e w' ⟨rfl, ⟨nd, rfl⟩⟩; refine ⟨_, rfl, ?_⟩))
                          go_ret
                          exact ⟨by first | rfl | (simp [errW_none, errW_some] <;> rfl) | (simp [*, errW_none, errW_some] <;> rfl), by repeat (first | (with_reducible first | exact HB.out | apply below_alloc | apply pw_below_drewN | apply below_drew1) | exact HB.out)⟩
                        · rw [if_neg c22] at H
                          have c22b0 : decide ((wrap64 ((a0.size : Int) - x8_2)) < t160) = false := decide_eq_false c22
                          clear c22
                          by_cases c23 : t160 > 0
                          · rw [if_pos c23] at H
                            have c23b0 : decide (0 < t160) = true := decide_eq_true c23
                            clear c23
                            by_cases c24 : 0 ≤ x8_2
                            · rw [if_pos c24] at H
                              have c24b0 := eq_true c24
                              have c24b1 : decide (0 ≤ x8_2) = true := decide_eq_true c24
                              clear c24
                              by_cases c25 : x8_2 ≤ (wrap64 (x8_2 + t160))
                              · rw [if_pos c25] at H
                                have c25b0 := eq_true c25
                                have c25b1 : decide (x8_2 ≤ (wrap64 (x8_2 + t160))) = true := decide_eq_true c25
                                by_cases c26 : (wrap64 (x8_2 + t160)) ≤ (a0.size : Int)
                                · rw [if_pos c26] at H
                                  have c26b0 := eq_true c26
                                  have c26b1 : decide ((wrap64 (x8_2 + t160)) ≤ (a0.size : Int)) = true := decide_eq_true c26
                                  replace H := Option.bind_eq_some_iff.mp H
                                  obtain ⟨t161, A270, H⟩ := H
                                  replace H : (if t161 = 1 then (if t160 > 1 then (if x8_2 ≤ (wrap64 ((wrap64 (x8_2 + t160)) - 1)) then (if (wrap64 ((wrap64 (x8_2 + t160)) - 1)) ≤ (a0.size : Int) then ((cursor_Rune.f kj15 (a0.extract (x8_2 : Int).toNat ((wrap64 ((wrap64 (x8_2 + t160)) - 1)) : Int).toNat) 0).bind fun t162 => (if t162 = 0 then (quipulaw11_CursorJoins.l0 kj15 a0 (wrap64 (x8_2 + 1))) else (some false))) else (none)) else (none)) else (quipulaw11_CursorJoins.l0 kj15 a0 (wrap64 (x8_2 + 1)))) else (some false)) = some r := H
                                  have A27 := Aside0.mk A270
                                  clear A270
                                  by_cases c28 : t161 = 1
                                  · rw [if_pos c28] at H
                                    have c28b0 : (t161 == 1) = true := beq_iff_eq.mpr c28
                                    have c28b1 : (t161 != 1) = false := bne_eq_false_iff_eq.mpr c28
                                    clear c28
                                    by_cases c29 : t160 > 1
                                    · rw [if_pos c29] at H
                                      have c29b0 : decide (1 < t160) = true := decide_eq_true c29
                                      clear c29
                                      have c30b0 := eq_true (of_decide_eq_true (by first | (with_reducible assumption) | assumption) : 0 ≤ x8_2)
                                      by_cases c31 : x8_2 ≤ (wrap64 ((wrap64 (x8_2 + t160)) - 1))
                                      · rw [if_pos c31] at H
                                        have c31b0 := eq_true c31
                                        have c31b1 : decide (x8_2 ≤ (wrap64 ((wrap64 (x8_2 + t160)) - 1))) = true := decide_eq_true c31
                                        by_cases c32 : (wrap64 ((wrap64 (x8_2 + t160)) - 1)) ≤ (a0.size : Int)
                                        · rw [if_pos c32] at H
                                          have c32b0 := eq_true c32
                                          have c32b1 : decide ((wrap64 ((wrap64 (x8_2 + t160)) - 1)) ≤ (a0.size : Int)) = true := decide_eq_true c32
                                          replace H := Option.bind_eq_some_iff.mp H
                                          obtain ⟨t162, A330, H⟩ := H
                                          replace H : (if t162 = 0 then (quipulaw11_CursorJoins.l0 kj15 a0 (wrap64 (x8_2 + 1))) else (some false)) = some r := H
                                          have A33 := Aside0.mk A330
                                          clear A330
                                          by_cases c34 : t162 = 0
                                          · rw [if_pos c34] at H
                                            have c34b0 : (t162 == 0) = true := beq_iff_eq.mpr c34
                                            have c34b1 : (t162 != 0) = false := bne_eq_false_iff_eq.mpr c34
                                            clear c34
                                            have H' := Aside0.mk H
                                            clear H
                                            go_wp2_with (first | ((with_reducible refine gate_callee (f := 10) rfl ?_); refine goesL_ (some 61) rfl rfl Try.func10 (by kernel_rfl) rfl #[.string a0, .int .i64 x8_2] rfl (by (try simp only [List.map_toArray, List.map_cons, List.map_nil]); first | done | rfl | (simp only [List.length_drop, List.length_take]; rfl)) ?_; (with_reducible refine (cursor_Rune.calls kj15 a0 x8_2 t160 _ A19.out).mono ?_); rintro e w' ⟨rfl, ⟨nd, rfl⟩⟩; refine ⟨_, rfl, ?_⟩) | (go_at_call 13; (with_reducible refine (cursor_Runes.calls kj15 (a0.extract (x8_2 : Int).toNat ((wrap64 (x8_2 + t160)) : Int).toNat) t161 _ A27.out).mono ?_); rintro e w' ⟨rfl, ⟨nd, rfl⟩⟩) | (go_at_call 10; (with_reducible refine (cursor_Rune.calls kj15 (a0.extract (x8_2 : Int).toNat ((wrap64 ((wrap64 (x8_2 + t160)) - 1)) : Int).toNat) 0 t162 _ A33.out).mono ?_); rintro e w' ⟨rfl, ⟨nd, rfl⟩⟩))
                                            go_roundg kj15
                                            case measure => have := HJ6.out; have := HK2.out; have := HJ15.out; omega
                                            case rel => exact ⟨(wrap64 (x8_2 + 1)), (by first | rfl | (simp; done) | (simp [*]; done)), H', ⟨by have := HJ6.out; have := HK2.out; have := HJ15.out; omega⟩, ⟨by repeat (first | (with_reducible first | exact HB.out | apply below_alloc | apply pw_below_drewN | apply below_drew1) | exact HB.out)⟩⟩
                                          · rw [if_neg c34] at H
                                            have c34b0 : (t162 == 0) = false := beq_eq_false_iff_ne.mpr c34
                                            have c34b1 : (t162 != 0) = true := bne_iff_ne.mpr c34
                                            obtain rfl := Option.some.inj H
                                            go_wp2_with (first | ((with_reducible refine gate_callee (f := 10) rfl ?_); refine goesL_ (some 61) rfl rfl Try.func10 (by kernel_rfl) rfl #[.string a0, .int .i64 x8_2] rfl (by (try simp only [List.map_toArray, List.map_cons, List.map_nil]); first | done | rfl | (simp only [List.length_drop, List.length_take]; rfl)) ?_; (with_reducible refine (cursor_Rune.calls kj15 a0 x8_2 t160 _ A19.out).mono ?_); rintro e w' ⟨rfl, ⟨nd, rfl⟩⟩; refine ⟨_, rfl, ?_⟩) | (go_at_call 13; (with_reducible refine (cursor_Runes.calls kj15 (a0.extract (x8_2 : Int).toNat ((wrap64 (x8_2 + t160)) : Int).toNat) t161 _ A27.out).mono ?_); rintro e w' ⟨rfl, ⟨nd, rfl⟩⟩) | (go_at_call 10; (with_reducible refine (cursor_Rune.calls kj15 (a0.extract (x8_2 : Int).toNat ((wrap64 ((wrap64 (x8_2 + t160)) - 1)) : Int).toNat) 0 t162 _ A33.out).mono ?_); rintro e w' ⟨rfl, ⟨nd, rfl⟩⟩))
                                            go_ret
                                            exact ⟨by first | rfl | (simp [errW_none, errW_some] <;> rfl) | (simp [*, errW_none, errW_some] <;> rfl), by repeat (first | (with_reducible first | exact HB.out | apply below_alloc | apply pw_below_drewN | apply below_drew1) | exact HB.out)⟩
                                        · rw [if_neg c32] at H
                                          exact absurd H (by simp)
                                      · rw [if_neg c31] at H
                                        exact absurd H (by simp)
                                    · rw [if_neg c29] at H
                                      have c29b0 : decide (1 < t160) = false := decide_eq_false c29
                                      clear c29
                                      have H' := Aside0.mk H
                                      clear H
                                      go_wp2_with (first | ((with_reducible refine gate_callee (f := 10) rfl ?_); refine goesL_ (some 61) rfl rfl Try.func10 (by kernel_rfl) rfl #[.string a0, .int .i64 x8_2] rfl (by (try simp only [List.map_toArray, List.map_cons, List.map_nil]); first | done | rfl | (simp only [List.length_drop, List.length_take]; rfl)) ?_; (with_reducible refine (cursor_Rune.calls kj15 a0 x8_2 t160 _ A19.out).mono ?_); rintro e w' ⟨rfl, ⟨nd, rfl⟩⟩; refine ⟨_, rfl, ?_⟩) | (go_at_call 13; (with_reducible refine (cursor_Runes.calls kj15 (a0.extract (x8_2 : Int).toNat ((wrap64 (x8_2 + t160)) : Int).toNat) t161 _ A27.out).mono ?_); rintro e w' ⟨rfl, ⟨nd, rfl⟩⟩))
                                      go_roundg kj15
                                      case measure => have := HJ6.out; have := HK2.out; have := HJ15.out; omega
                                      case rel => exact ⟨(wrap64 (x8_2 + 1)), (by first | rfl | (simp; done) | (simp [*]; done)), H', ⟨by have := HJ6.out; have := HK2.out; have := HJ15.out; omega⟩, ⟨by repeat (first | (with_reducible first | exact HB.out | apply below_alloc | apply pw_below_drewN | apply below_drew1) | exact HB.out)⟩⟩
                                  · rw [if_neg c28] at H
                                    have c28b0 : (t161 == 1) = false := beq_eq_false_iff_ne.mpr c28
                                    have c28b1 : (t161 != 1) = true := bne_iff_ne.mpr c28
                                    obtain rfl := Option.some.inj H
                                    go_wp2_with (first | ((with_reducible refine gate_callee (f := 10) rfl ?_); refine goesL_ (some 61) rfl rfl Try.func10 (by kernel_rfl) rfl #[.string a0, .int .i64 x8_2] rfl (by (try simp only [List.map_toArray, List.map_cons, List.map_nil]); first | done | rfl | (simp only [List.length_drop, List.length_take]; rfl)) ?_; (with_reducible refine (cursor_Rune.calls kj15 a0 x8_2 t160 _ A19.out).mono ?_); rintro e w' ⟨rfl, ⟨nd, rfl⟩⟩; refine ⟨_, rfl, ?_⟩) | (go_at_call 13; (with_reducible refine (cursor_Runes.calls kj15 (a0.extract (x8_2 : Int).toNat ((wrap64 (x8_2 + t160)) : Int).toNat) t161 _ A27.out).mono ?_); rintro e w' ⟨rfl, ⟨nd, rfl⟩⟩))
                                    go_ret
                                    exact ⟨by first | rfl | (simp [errW_none, errW_some] <;> rfl) | (simp [*, errW_none, errW_some] <;> rfl), by repeat (first | (with_reducible first | exact HB.out | apply below_alloc | apply pw_below_drewN | apply below_drew1) | exact HB.out)⟩
                                · rw [if_neg c26] at H
                                  exact absurd H (by simp)
                              · rw [if_neg c25] at H
                                exact absurd H (by simp)
                            · rw [if_neg c24] at H
                              exact absurd H (by simp)
                          · rw [if_neg c23] at H
                            have c23b0 : decide (0 < t160) = false := decide_eq_false c23
                            clear c23
                            have H' := Aside0.mk H
                            clear H
                            go_wp2_with (first | ((with_reducible refine gate_callee (f := 10) rfl ?_); refine goesL_ (some 61) rfl rfl Try.func10 (by kernel_rfl) rfl #[.string a0, .int .i64 x8_2] rfl (by (try simp only [List.map_toArray, List.map_cons, List.map_nil]); first | done | rfl | (simp only [List.length_drop, List.length_take]; rfl)) ?_; (with_reducible refine (cursor_Rune.calls kj15 a0 x8_2 t160 _ A19.out).mono ?_); rintro e w' ⟨rfl, ⟨nd, rfl⟩⟩; refine ⟨_, rfl, ?_⟩))
                            go_roundg kj15
                            case measure => have := HJ6.out; have := HK2.out; have := HJ15.out; omega
                            case rel => exact ⟨(wrap64 (x8_2 + 1)), (by first | rfl | (simp; done) | (simp [*]; done)), H', ⟨by have := HJ6.out; have := HK2.out; have := HJ15.out; omega⟩, ⟨by repeat (first | (with_reducible first | exact HB.out | apply below_alloc | apply pw_below_drewN | apply below_drew1) | exact HB.out)⟩⟩
                  · replace c18 := Bool.eq_false_iff.mpr c18
                    subst c18
                    have H1 : ((quipulaw11_fixed.f kj15).bind fun t159 => (some t159)) = some r := by rw [if_neg (show ¬ (false = true) by decide)] at H; exact H
                    clear H
                    have H := H1
                    clear H1
                    replace H := Option.bind_eq_some_iff.mp H
                    obtain ⟨t159, A350, H⟩ := H
                    replace H : (some t159) = some r := H
                    have A35 := Aside0.mk A350
                    clear A350
                    obtain rfl := Option.some.inj H
                    go_wp2_with (first | ((with_reducible refine gate_callee (f := 14) rfl ?_); refine goesL_ (some 105) rfl rfl Try.func14 (by kernel_rfl) rfl #[] rfl (by (try simp only [List.map_toArray, List.map_cons, List.map_nil]); first | done | rfl | (simp only [List.length_drop, List.length_take]; rfl)) ?_; (with_reducible refine (quipulaw11_fixed.calls kj15  t159 _ A35.out).mono ?_); rintro e w36 ⟨rfl, hb⟩; refine ⟨_, rfl, ?_⟩; have n0_ := Aside0.mk (below_step (by repeat (first | (with_reducible first | exact HB.out | apply below_alloc | apply pw_below_drewN | apply below_drew1) | exact HB.out)) hb); clear HB; have HB := n0_; clear n0_; (try clear hb); (try clear hb2); (try clear hk); (try clear hi)))
                    go_ret
                    exact ⟨by first | rfl | (simp [errW_none, errW_some] <;> rfl) | (simp [*, errW_none, errW_some] <;> rfl), by repeat (first | (with_reducible first | exact HB.out | apply below_alloc | apply pw_below_drewN | apply below_drew1) | exact HB.out)⟩
  · rw [if_neg c5] at H
    exact absurd H (by simp)

/-- THE ONE PURE STATEMENT of quipulaw11_CursorJoins: yours. -/
def quipulaw11_CursorJoins.Pure : Prop := ∀ (a0 : ByteArray) (a1 : ByteArray), a0.size ≤ 140737488351232 → a1.size ≤ 140737488351232 → ∃ k, quipulaw11_CursorJoins.f k a0 a1 = some true
theorem quipulaw11_CursorJoins.walk (P : quipulaw11_CursorJoins.Pure) (a0 : ByteArray) (a1 : ByteArray) (w : World) (w0 : a0.size ≤ 140737488351232) (w1 : a1.size ≤ 140737488351232) :
    Calls Try.prog 4 #[.string a0, .string a1] w fun e w' => e = .returned (.bool true) ∧ Below w.heap.size w w' := by
  obtain ⟨k, h⟩ := P a0 a1 w0 w1
  refine (quipulaw11_CursorJoins.calls k a0 a1 true w h).mono ?_
  rintro e w' ⟨rfl, hd⟩
  exact ⟨rfl, hd⟩

/-! ### quipuref11_Put: function 18 -/
def quipuref11_Put.l0 : Nat → Int → Int → List Int → Int → Option (ByteArray)
  | 0, _, _, _, _ => none
  | k + 1, x0, x1, x5, x6 => if x6 < x1 then (if 0 ≤ (wrap64 (8 * (wrap64 ((wrap64 (x1 - 1)) - x6)))) then (if 0 ≤ x6 then (if x6 < (x5.length : Int) then (quipuref11_Put.l0 k x0 x1 (x5.set (x6 : Int).toNat ((shr .i64 x0 (wrap64 (8 * (wrap64 ((wrap64 (x1 - 1)) - x6))))) % 256)) (wrap64 (x6 + 1))) else (none)) else (none)) else (none)) else (some (strOfNums x5))
def quipuref11_Put.f (k : Nat) (a0 : Int) (a1 : Int) : Option (ByteArray) := if 0 ≤ a1 then (if (a1 : Int).toNat ≤ 281474976710656 then (quipuref11_Put.l0 k a0 a1 (List.replicate (a1 : Int).toNat 0) 0) else (none)) else (none)
theorem quipuref11_Put.mono_l : ∀ k, (∀ y0 y1 y2 y3, LeO (quipuref11_Put.l0 k y0 y1 y2 y3) (quipuref11_Put.l0 (k + 1) y0 y1 y2 y3))
  | 0 => fun _ _ _ _ r h => by simp [quipuref11_Put.l0] at h
  | k + 1 => by
    have ih0 := quipuref11_Put.mono_l k
    · intro y0 y1 y2 y3
      unfold quipuref11_Put.l0
      repeat' first
      | (with_reducible exact ih0 _ _ _ _)
      | (with_reducible exact LeO.refl _)
      | (with_reducible exact LeO.none _)
      | (with_reducible refine LeO.ite ?_ ?_)
      | (with_reducible refine LeO.bind ?_ (fun _ => ?_))
      | exact ih0 _ _ _ _
      | exact LeO.none _
      | refine LeO.ite ?_ ?_
      | refine LeO.bind ?_ (fun _ => ?_)
theorem quipuref11_Put.mono : ∀ a0 a1 k, LeO (quipuref11_Put.f k a0 a1) (quipuref11_Put.f (k + 1) a0 a1) := by
  intro a0 a1 k
  have ih0 := quipuref11_Put.mono_l k
  unfold quipuref11_Put.f
  repeat' first
      | (with_reducible exact ih0 _ _ _ _)
      | (with_reducible exact LeO.refl _)
      | (with_reducible exact LeO.none _)
      | (with_reducible refine LeO.ite ?_ ?_)
      | (with_reducible refine LeO.bind ?_ (fun _ => ?_))
      | exact ih0 _ _ _ _
      | exact LeO.none _
      | refine LeO.ite ?_ ?_
      | refine LeO.bind ?_ (fun _ => ?_)
set_option maxHeartbeats 8000000 in
set_option maxRecDepth 100000 in
theorem quipuref11_Put.calls (k : Nat) (a0 : Int) (a1 : Int) (r : ByteArray) (w : World) (h : quipuref11_Put.f k a0 a1 = some r) :
    Calls Try.prog 18 #[.int .i64 a0, .int .i64 a1] w fun e w' => e = .returned (.string r) ∧ Below w.heap.size w w' := by
  have HB := Aside0.mk (Below.refl w.heap.size w)
  have H : (if 0 ≤ a1 then (if (a1 : Int).toNat ≤ 281474976710656 then (quipuref11_Put.l0 k a0 a1 (List.replicate (a1 : Int).toNat 0) 0) else (none)) else (none)) = some r := h
  clear h
  by_cases c3 : 0 ≤ a1
  · rw [if_pos c3] at H
    have c3b0 := eq_true c3
    have c3b1 : decide (0 ≤ a1) = true := decide_eq_true c3
    clear c3
    by_cases c4 : (a1 : Int).toNat ≤ 281474976710656
    · rw [if_pos c4] at H
      have c4b0 := eq_true c4
      have c4b1 : decide ((a1 : Int).toNat ≤ 281474976710656) = true := decide_eq_true c4
      clear c4
      obtain ⟨y163, hy163⟩ : ∃ y_ : List Int, y_ = (List.replicate (a1 : Int).toNat 0) := ⟨_, rfl⟩
      replace H : (quipuref11_Put.l0 k a0 a1 y163 0) = some r := by first | (rw [hy163]; with_reducible exact H) | (have H2_ := (Option.bind_some _ _).symm.trans H; rw [hy163]; with_reducible exact H2_) | (have H2_ := (Option.bind_some _ _).symm.trans H; with_reducible exact H2_) | with_reducible exact H | (rw [hy163]; exact H) | exact H
      have Ny163 := Aside0.mk hy163
      clear hy163
      have H' := Aside0.mk H
      clear H
      go_enter Try.func18, Try.ntmps18
      go_wp2_with (first | ((with_reducible refine gate_dst (N := 8) rfl ?_); refine Kd.R_make (Kd.int .u8) _ 5 rfl (N := 8) rfl 48 _ _ rfl a1 rfl rfl Try.underlying48 (.int .u8 0) 1 info5 rfl (by decide) (by omega) 0 (ok := fun _ => True) (okp := fun _ => True) rfl (fun _ hk => hk) trivial (of_decide_eq_true (by first | (with_reducible assumption) | assumption)) (Nat.le_trans (Nat.mul_le_mul_right _ (of_decide_eq_true (by first | (with_reducible assumption) | assumption) : a1.toNat ≤ 281474976710656)) (by omega)) (Below.refl _ _) (Nat.le_refl _) ?_; intro v164 w5 ho6 hb hg_ hnew_; clear hg_ hnew_; (first | rw [← Ny163.out] at ho6 | (simp only [Int.reduceToNat] at ho6; rw [← Ny163.out] at ho6)); have n0_ := Aside0.mk (Kd.R_lower ho6 (below_size (by repeat (first | (with_reducible first | exact HB.out | apply below_alloc | apply pw_below_drewN | apply below_drew1) | exact HB.out)))); have n1_ := Aside0.mk (below_step (by repeat (first | (with_reducible first | exact HB.out | apply below_alloc | apply pw_below_drewN | apply below_drew1) | exact HB.out)) hb); clear HB; have HO165 := n0_; have HB := n1_; clear n0_ n1_; clear hb ho6))
      go_loopg [6] k (fun kq v6 w' => ∃ (x5_1 : List Int) (x6_1 : Int), v6 = .int .i64 x6_1 ∧ Aside0 (quipuref11_Put.l0 kq a0 a1 x5_1 x6_1 = some r) ∧ Aside0 (kq ≤ k) ∧ Aside0 (Kd.R (Kd.int .u8) 5 w' w.heap.size (fun _ => True) v164 x5_1) ∧ Aside0 (Below w.heap.size w w'))
      case atStart => exact ⟨(y163), (0), (by first | rfl | (simp; done) | (simp [*]; done)), H', ⟨Nat.le_refl _⟩, ⟨by (with_reducible repeat (first | apply Kd.R_alloc | apply Kd.R_drewN | apply Kd.R_drew)); exact HO165.out⟩, ⟨by repeat (first | (with_reducible first | exact HB.out | apply below_alloc | apply pw_below_drewN | apply below_drew1) | exact HB.out)⟩⟩
      case round =>
        clear H'
        try clear c1
        try clear p2
        try clear c3
        try clear c3b0
        try clear c3b1
        try clear c4
        try clear c4b0
        try clear c4b1
        obtain ⟨x5_1, x6_1, rfl, HA, HK1, HO_5, HB⟩ := hrel
        cases gk with
        | zero => exact absurd HA.out (by simp [quipuref11_Put.l0])
        | succ k1 =>
          have H := HA.out
          clear HA
          simp only [quipuref11_Put.l0] at H
          by_cases c7 : x6_1 < a1
          · rw [if_pos c7] at H
            have c7b0 : decide (x6_1 < a1) = true := decide_eq_true c7
            clear c7
            obtain ⟨ji8, hji8⟩ : ∃ j_ : Int, (wrap64 (8 * (wrap64 ((wrap64 (a1 - 1)) - x6_1)))) = j_ := ⟨_, rfl⟩
            replace H : (if 0 ≤ (ji8) then (if 0 ≤ x6_1 then (if x6_1 < (x5_1.length : Int) then (quipuref11_Put.l0 k1 a0 a1 (x5_1.set (x6_1 : Int).toNat ((shr .i64 a0 (ji8)) % 256)) (wrap64 (x6_1 + 1))) else (none)) else (none)) else (none)) = some r := by first | (rw [hji8] at H; exact H) | (simp only [hji8] at H ⊢; exact H)
            have hji8w : (IntKind.i64.wrap (8 * (wrap64 ((wrap64 (a1 - 1)) - x6_1)))) = ji8 := (i64_w _).trans hji8
            by_cases c9 : 0 ≤ (ji8)
            · rw [if_pos c9] at H
              have c9b0 := eq_true c9
              have c9b1 : decide (0 ≤ (ji8)) = true := decide_eq_true c9
              clear c9
              obtain ⟨ji10, hji10⟩ : ∃ j_ : Int, (shr .i64 a0 (ji8)) = j_ := ⟨_, rfl⟩
              replace H : (if 0 ≤ x6_1 then (if x6_1 < (x5_1.length : Int) then (quipuref11_Put.l0 k1 a0 a1 (x5_1.set (x6_1 : Int).toNat ((ji10) % 256)) (wrap64 (x6_1 + 1))) else (none)) else (none)) = some r := by first | (rw [hji10] at H; exact H) | (simp only [hji10] at H ⊢; exact H)
              have hji10_ : (a0 / 2 ^ min (ji8).toNat 64) = ji10 := hji10
              have hji10z : (ji8) ≤ 64 → (a0 / 2 ^ (ji8).toNat) = ji10 := shr_small hji10
              by_cases c11 : 0 ≤ x6_1
              · rw [if_pos c11] at H
                have c11b0 : decide (0 ≤ x6_1) = true := decide_eq_true c11
                clear c11
                by_cases c12 : x6_1 < (x5_1.length : Int)
                · rw [if_pos c12] at H
                  have c12b0 : decide (x6_1 < (x5_1.length : Int)) = true := decide_eq_true c12
                  clear c12
                  obtain ⟨y166, hy166⟩ : ∃ y_ : List Int, y_ = (x5_1.set (x6_1 : Int).toNat ((ji10) % 256)) := ⟨_, rfl⟩
                  replace H : (quipuref11_Put.l0 k1 a0 a1 y166 (wrap64 (x6_1 + 1))) = some r := by first | (rw [hy166]; with_reducible exact H) | (have H2_ := (Option.bind_some _ _).symm.trans H; rw [hy166]; with_reducible exact H2_) | (have H2_ := (Option.bind_some _ _).symm.trans H; with_reducible exact H2_) | with_reducible exact H | (rw [hy166]; exact H) | exact H
                  have Ny166 := Aside0.mk hy166
                  clear hy166
                  have H' := Aside0.mk H
                  clear H
                  have p13 : 0 ≤ (x6_1 : Int) := of_decide_eq_true (by first | (with_reducible assumption) | assumption)
                  have q13 : (x6_1 : Int) < ((x5_1.length : Int) : Int) := of_decide_eq_true (by first | (with_reducible assumption) | assumption)
                  obtain ⟨go13, co13, eo13, gb13, gl13, cl13, HG13⟩ := Kd.R_form HO_5.out (by omega)
                  (first | cases eo13 | (injection eo13 with ea_ en_ ec_; (first | subst ea_ | (injection ea_ with ea_; subst ea_)); subst ec_; clear en_))
                  have GB13 := Aside0.mk gb13
                  have GG13 := Aside0.mk HG13
                  clear gb13 gl13 HG13
                  obtain ⟨hx13_0, hf13_0⟩ := Kd.R_celln 0 HO_5.out (x6_1 : Int) p13 q13
                  replace p13 := eq_true p13
                  replace q13 := eq_true q13
                  have HP14 := Kd.R_putg HO_5.out (x6_1 : Int) ((ji10) % 256)
                  go_wp2_with (first | ((with_reducible refine gate_store (t := 5) (p := 24) rfl ?_); refine store_event (t := 5) (p := 24) (v := ?vo_w15) (w1 := (wr.setCell ⟨go13, (x6_1 : Int).toNat, none⟩ (.int .u8 ((ji10) % 256)))) ?hg ?ho ?hn ?hr ?_; (case ho => rfl); (case hg => rfl); (case hn => rfl); (case hr => first | (go_simp; done) | (go_simp; rfl)); intro w15 hw; have hg : wr.grownBy w15 (some go13) := (by rw [hw]; exact HP14.2); have hp_ : Kd.R (Kd.int .u8) 5 w15 w.heap.size (fun _ => True) (.slice (some ⟨go13, 0, none⟩) x5_1.length co13) y166 := (by rw [hw, Ny166.out]; exact HP14.1); clear HP14; have n0_ := Aside0.mk (hp_); have n1_ := Aside0.mk ((by rw [hw]; exact below_set (HB.out) GB13.out : Below w.heap.size w w15)); clear HO_5; clear HB; have HO_5 := n0_; have HB := n1_; clear n0_ n1_; clear hg hw hp_))
                  go_roundg k1
                  case measure => have := HK1.out; omega
                  case rel => exact ⟨(y166), (wrap64 (x6_1 + 1)), (by first | rfl | (simp; done) | (simp [*]; done)), H', ⟨by have := HK1.out; omega⟩, ⟨by (with_reducible repeat (first | apply Kd.R_alloc | apply Kd.R_drewN | apply Kd.R_drew)); exact HO_5.out⟩, ⟨by repeat (first | (with_reducible first | exact HB.out | apply below_alloc | apply pw_below_drewN | apply below_drew1) | exact HB.out)⟩⟩
                · rw [if_neg c12] at H
                  exact absurd H (by simp)
              · rw [if_neg c11] at H
                exact absurd H (by simp)
            · rw [if_neg c9] at H
              exact absurd H (by simp)
          · rw [if_neg c7] at H
            have c7b0 : decide (x6_1 < a1) = false := decide_eq_false c7
            clear c7
            obtain rfl := Option.some.inj H
            have hcv16 := own_string (P := Try.prog) Try.underlying48 Try.underlying5 Try.underlying9 (Kd.own_of_R HO_5.out)
            go_wp2
            go_ret
            exact ⟨by first | rfl | (simp [errW_none, errW_some] <;> rfl) | (simp [*, errW_none, errW_some] <;> rfl), by repeat (first | (with_reducible first | exact HB.out | apply below_alloc | apply pw_below_drewN | apply below_drew1) | exact HB.out)⟩
    · rw [if_neg c4] at H
      exact absurd H (by simp)
  · rw [if_neg c3] at H
    exact absurd H (by simp)

/-! ### quipuref11_PutText: function 16 -/
def quipuref11_PutText.f (k : Nat) (a0 : ByteArray) : Option (ByteArray × Int) := if (a0.size : Int) > 1024 then (some ((⟨#[]⟩ : ByteArray), 112)) else ((quipuref11_Runes.f k a0).bind fun t167 => (if t167 < 0 then (some ((⟨#[]⟩ : ByteArray), 111)) else ((quipuref11_Put.f k (a0.size : Int) 2).bind fun t168 => (if t168.size + a0.size ≤ 9223372036854775807 then (some (t168 ++ a0, 0)) else (none)))))
theorem quipuref11_PutText.mono : ∀ a0 k, LeO (quipuref11_PutText.f k a0) (quipuref11_PutText.f (k + 1) a0) := by
  intro a0 k
  unfold quipuref11_PutText.f
  repeat' first
      | (with_reducible exact quipuref11_Put.mono _ _ _)
      | (with_reducible exact quipuref11_Runes.mono _ _)
      | (with_reducible exact LeO.refl _)
      | (with_reducible exact LeO.none _)
      | (with_reducible refine LeO.ite ?_ ?_)
      | (with_reducible refine LeO.bind ?_ (fun _ => ?_))
      | exact quipuref11_Put.mono _ _ _
      | exact quipuref11_Runes.mono _ _
      | exact LeO.none _
      | refine LeO.ite ?_ ?_
      | refine LeO.bind ?_ (fun _ => ?_)
set_option maxHeartbeats 8000000 in
set_option maxRecDepth 100000 in
theorem quipuref11_PutText.calls (k : Nat) (a0 : ByteArray) (r1 : ByteArray) (r2 : Int) (w : World) (h : quipuref11_PutText.f k a0 = some (r1, r2)) :
    Calls Try.prog 16 #[.string a0] w fun e w' => e = .returned (.tuple #[.string r1, .int .i64 r2]) ∧ Below w.heap.size w w' := by
  have HB := Aside0.mk (Below.refl w.heap.size w)
  have H : (if (a0.size : Int) > 1024 then (some ((⟨#[]⟩ : ByteArray), 112)) else ((quipuref11_Runes.f k a0).bind fun t167 => (if t167 < 0 then (some ((⟨#[]⟩ : ByteArray), 111)) else ((quipuref11_Put.f k (a0.size : Int) 2).bind fun t168 => (if t168.size + a0.size ≤ 9223372036854775807 then (some (t168 ++ a0, 0)) else (none)))))) = some (r1, r2) := h
  clear h
  by_cases c2 : (a0.size : Int) > 1024
  · rw [if_pos c2] at H
    have c2b0 : decide (1024 < (a0.size : Int)) = true := decide_eq_true c2
    have c2b1 : decide (1024 < a0.size) = true := decide_eq_true (by omega)
    clear c2
    simp only [Option.some.injEq, Prod.mk.injEq] at H
    obtain ⟨rfl, rfl⟩ := H
    go_enter Try.func16, Try.ntmps16
    go_wp2
    go_ret2
    exact ⟨by first | rfl | (simp [errW_none, errW_some] <;> rfl) | (simp [*, errW_none, errW_some] <;> rfl), by repeat (first | (with_reducible first | exact HB.out | apply below_alloc | apply pw_below_drewN | apply below_drew1) | exact HB.out)⟩
  · rw [if_neg c2] at H
    have c2b0 : decide (1024 < (a0.size : Int)) = false := decide_eq_false c2
    have c2b1 : decide (1024 < a0.size) = false := decide_eq_false (by omega)
    clear c2
    replace H := Option.bind_eq_some_iff.mp H
    obtain ⟨t167, A30, H⟩ := H
    replace H : (if t167 < 0 then (some ((⟨#[]⟩ : ByteArray), 111)) else ((quipuref11_Put.f k (a0.size : Int) 2).bind fun t168 => (if t168.size + a0.size ≤ 9223372036854775807 then (some (t168 ++ a0, 0)) else (none)))) = some (r1, r2) := H
    have A3 := Aside0.mk A30
    clear A30
    by_cases c4 : t167 < 0
    · rw [if_pos c4] at H
      have c4b0 : decide (t167 < 0) = true := decide_eq_true c4
      clear c4
      simp only [Option.some.injEq, Prod.mk.injEq] at H
      obtain ⟨rfl, rfl⟩ := H
      go_enter Try.func16, Try.ntmps16
      go_wp2_with (first | ((with_reducible refine gate_callee (f := 9) rfl ?_); refine goesL_ (some 8) rfl rfl Try.func9 (by kernel_rfl) rfl #[.string a0] rfl (by (try simp only [List.map_toArray, List.map_cons, List.map_nil]); first | done | rfl | (simp only [List.length_drop, List.length_take]; rfl)) ?_; (with_reducible refine (quipuref11_Runes.calls k a0 t167 _ A3.out).mono ?_); rintro e w' ⟨rfl, ⟨nd, rfl⟩⟩; refine ⟨_, rfl, ?_⟩))
      go_ret2
      exact ⟨by first | rfl | (simp [errW_none, errW_some] <;> rfl) | (simp [*, errW_none, errW_some] <;> rfl), by repeat (first | (with_reducible first | exact HB.out | apply below_alloc | apply pw_below_drewN | apply below_drew1) | exact HB.out)⟩
    · rw [if_neg c4] at H
      have c4b0 : decide (t167 < 0) = false := decide_eq_false c4
      clear c4
      replace H := Option.bind_eq_some_iff.mp H
      obtain ⟨t168, A50, H⟩ := H
      replace H : (if t168.size + a0.size ≤ 9223372036854775807 then (some (t168 ++ a0, 0)) else (none)) = some (r1, r2) := H
      have A5 := Aside0.mk A50
      clear A50
      by_cases c6 : t168.size + a0.size ≤ 9223372036854775807
      · rw [if_pos c6] at H
        have c6b0 := eq_true c6
        have c6b1 : decide (t168.size + a0.size ≤ 9223372036854775807) = true := decide_eq_true c6
        try have c6b2 : (9223372036854775807 < t168.size + a0.size) = False := eq_false (Nat.not_lt.2 c6)
        simp only [Option.some.injEq, Prod.mk.injEq] at H
        obtain ⟨rfl, rfl⟩ := H
        go_enter Try.func16, Try.ntmps16
        go_wp2_with (first | ((with_reducible refine gate_callee (f := 9) rfl ?_); refine goesL_ (some 8) rfl rfl Try.func9 (by kernel_rfl) rfl #[.string a0] rfl (by (try simp only [List.map_toArray, List.map_cons, List.map_nil]); first | done | rfl | (simp only [List.length_drop, List.length_take]; rfl)) ?_; (with_reducible refine (quipuref11_Runes.calls k a0 t167 _ A3.out).mono ?_); rintro e w' ⟨rfl, ⟨nd, rfl⟩⟩; refine ⟨_, rfl, ?_⟩) | ((with_reducible refine gate_callee (f := 18) rfl ?_); refine goesL_ (some 12) rfl rfl Try.func18 (by kernel_rfl) rfl #[.int .i64 (a0.size : Int), .int .i64 2] rfl (by (try simp only [List.map_toArray, List.map_cons, List.map_nil]); first | done | rfl | (simp only [List.length_drop, List.length_take]; rfl)) ?_; (with_reducible refine (quipuref11_Put.calls k (a0.size : Int) 2 t168 _ A5.out).mono ?_); rintro e w7 ⟨rfl, hb⟩; refine ⟨_, rfl, ?_⟩; have n0_ := Aside0.mk (below_step (by repeat (first | (with_reducible first | exact HB.out | apply below_alloc | apply pw_below_drewN | apply below_drew1) | exact HB.out)) hb); clear HB; have HB := n0_; clear n0_; (try clear hb); (try clear hb2); (try clear hk); (try clear hi)))
        go_ret2
        exact ⟨by first | rfl | (simp [errW_none, errW_some] <;> rfl) | (simp [*, errW_none, errW_some] <;> rfl), by repeat (first | (with_reducible first | exact HB.out | apply below_alloc | apply pw_below_drewN | apply below_drew1) | exact HB.out)⟩
      · rw [if_neg c6] at H
        exact absurd H (by simp)

end Go.Proofs.Ytfhlnmgaammofaa.Q
