-- printed by a program of this session (wip/tools/print2.sh) after the kit's print
import Derived.Test.YtfhlnmgaammofaaQx0
import Derived.Test.YtfhlnmgaammofaaQx3
import Derived.Test.YtfhlnmgaammofaaQx4
import Derived.Test.YtfhlnmgaammofaaQx5
namespace Go.Proofs.Ytfhlnmgaammofaa.Q
open Go.RowKit Go.Proofs.YtfhlnmgaammofaaW.PrintWords Go.Proofs.YtfhlnmgaammofaaW.PrintLast Go.Proofs.YtfhlnmgaammofaaW.PrintMore
attribute [local go_sem] max2_int min2_int max_two min_two max_three min_three max_four min_four   -- for this text's walks alone
set_option linter.unusedVariables false
set_option linter.unusedSimpArgs false

/-! ### cursor_Put8: function 17 -/
def cursor_Put8.f (k : Nat) (a0 : Int) : Option (ByteArray) := (cursor_put.f k a0 1).bind fun t169 => (some t169)
theorem cursor_Put8.mono : ∀ a0 k, LeO (cursor_Put8.f k a0) (cursor_Put8.f (k + 1) a0) := by
  intro a0 k
  unfold cursor_Put8.f
  repeat' first
      | (with_reducible exact cursor_put.mono _ _ _)
      | (with_reducible exact LeO.refl _)
      | (with_reducible exact LeO.none _)
      | (with_reducible refine LeO.ite ?_ ?_)
      | (with_reducible refine LeO.bind ?_ (fun _ => ?_))
      | exact cursor_put.mono _ _ _
      | exact LeO.none _
      | refine LeO.ite ?_ ?_
      | refine LeO.bind ?_ (fun _ => ?_)
set_option maxHeartbeats 8000000 in
set_option maxRecDepth 100000 in
theorem cursor_Put8.calls (k : Nat) (a0 : Int) (r : ByteArray) (w : World) (h : cursor_Put8.f k a0 = some r) :
    Calls Try.prog 17 #[.int .i64 a0] w fun e w' => e = .returned (.string r) ∧ Below w.heap.size w w' := by
  have HB := Aside0.mk (Below.refl w.heap.size w)
  have H : ((cursor_put.f k a0 1).bind fun t169 => (some t169)) = some r := h
  clear h
  replace H := Option.bind_eq_some_iff.mp H
  obtain ⟨t169, A20, H⟩ := H
  replace H : (some t169) = some r := H
  have A2 := Aside0.mk A20
  clear A20
  obtain rfl := Option.some.inj H
  go_enter Try.func17, Try.ntmps17
  go_wp2_with (first | ((with_reducible refine gate_callee (f := 37) rfl ?_); refine goesL_ (some 4) rfl rfl Try.func37 (by kernel_rfl) rfl #[.int .i64 a0, .int .i64 1] rfl (by (try simp only [List.map_toArray, List.map_cons, List.map_nil]); first | done | rfl | (simp only [List.length_drop, List.length_take]; rfl)) ?_; (with_reducible refine (cursor_put.calls k a0 1 t169 _ A2.out).mono ?_); rintro e w3 ⟨rfl, hb⟩; refine ⟨_, rfl, ?_⟩; have n0_ := Aside0.mk (below_step (by repeat (first | (with_reducible first | exact HB.out | apply below_alloc | apply pw_below_drewN | apply below_drew1) | exact HB.out)) hb); clear HB; have HB := n0_; clear n0_; (try clear hb); (try clear hb2); (try clear hk); (try clear hi)))
  go_ret
  exact ⟨by first | rfl | (simp [errW_none, errW_some] <;> rfl) | (simp [*, errW_none, errW_some] <;> rfl), by repeat (first | (with_reducible first | exact HB.out | apply below_alloc | apply pw_below_drewN | apply below_drew1) | exact HB.out)⟩

/-! ### quipulaw11_CursorLays: function 5 -/
def quipulaw11_CursorLays.f (k : Nat) (a0 : Int) (a1 : ByteArray) : Option (Bool) := (cursor_PutText.f k a1).bind fun bt170 => ((quipuref11_PutText.f k a1).bind fun bt172 => ((cursor_Put8.f k a0).bind fun t174 => ((quipuref11_Put.f k a0 1).bind fun t175 => (if t174.toList = t175.toList then ((cursor_Put16.f k a0).bind fun t176 => ((quipuref11_Put.f k a0 2).bind fun t177 => (if t176.toList = t177.toList then ((cursor_Put32.f k a0).bind fun t178 => ((quipuref11_Put.f k a0 4).bind fun t179 => (if t178.toList = t179.toList then (if bt170.1.toList = bt172.1.toList then (if bt170.2 = bt172.2 then ((quipulaw11_fixed.f k).bind fun t180 => (some t180)) else (some false)) else (some false)) else (some false)))) else (some false)))) else (some false)))))
theorem quipulaw11_CursorLays.mono : ∀ a0 a1 k, LeO (quipulaw11_CursorLays.f k a0 a1) (quipulaw11_CursorLays.f (k + 1) a0 a1) := by
  intro a0 a1 k
  unfold quipulaw11_CursorLays.f
  repeat' first
      | (with_reducible exact cursor_Put16.mono _ _)
      | (with_reducible exact cursor_Put32.mono _ _)
      | (with_reducible exact cursor_Put8.mono _ _)
      | (with_reducible exact cursor_PutText.mono _ _)
      | (with_reducible exact quipulaw11_fixed.mono _)
      | (with_reducible exact quipuref11_Put.mono _ _ _)
      | (with_reducible exact quipuref11_PutText.mono _ _)
      | (with_reducible exact LeO.refl _)
      | (with_reducible exact LeO.none _)
      | (with_reducible refine LeO.ite ?_ ?_)
      | (with_reducible refine LeO.bind ?_ (fun _ => ?_))
      | exact cursor_Put16.mono _ _
      | exact cursor_Put32.mono _ _
      | exact cursor_Put8.mono _ _
      | exact cursor_PutText.mono _ _
      | exact quipulaw11_fixed.mono _
      | exact quipuref11_Put.mono _ _ _
      | exact quipuref11_PutText.mono _ _
      | exact LeO.none _
      | refine LeO.ite ?_ ?_
      | refine LeO.bind ?_ (fun _ => ?_)
set_option maxHeartbeats 8000000 in
set_option maxRecDepth 100000 in
theorem quipulaw11_CursorLays.calls (k : Nat) (a0 : Int) (a1 : ByteArray) (r : Bool) (w : World) (h : quipulaw11_CursorLays.f k a0 a1 = some r) :
    Calls Try.prog 5 #[.int .i64 a0, .string a1] w fun e w' => e = .returned (.bool r) ∧ Below w.heap.size w w' := by
  have HB := Aside0.mk (Below.refl w.heap.size w)
  have H : ((cursor_PutText.f k a1).bind fun bt170 => ((quipuref11_PutText.f k a1).bind fun bt172 => ((cursor_Put8.f k a0).bind fun t174 => ((quipuref11_Put.f k a0 1).bind fun t175 => (if t174.toList = t175.toList then ((cursor_Put16.f k a0).bind fun t176 => ((quipuref11_Put.f k a0 2).bind fun t177 => (if t176.toList = t177.toList then ((cursor_Put32.f k a0).bind fun t178 => ((quipuref11_Put.f k a0 4).bind fun t179 => (if t178.toList = t179.toList then (if bt170.1.toList = bt172.1.toList then (if bt170.2 = bt172.2 then ((quipulaw11_fixed.f k).bind fun t180 => (some t180)) else (some false)) else (some false)) else (some false)))) else (some false)))) else (some false)))))) = some r := h
  clear h
  replace H := Option.bind_eq_some_iff.mp H
  obtain ⟨⟨t170, t171⟩, A30, H⟩ := H
  replace H : ((quipuref11_PutText.f k a1).bind fun bt172 => ((cursor_Put8.f k a0).bind fun t174 => ((quipuref11_Put.f k a0 1).bind fun t175 => (if t174.toList = t175.toList then ((cursor_Put16.f k a0).bind fun t176 => ((quipuref11_Put.f k a0 2).bind fun t177 => (if t176.toList = t177.toList then ((cursor_Put32.f k a0).bind fun t178 => ((quipuref11_Put.f k a0 4).bind fun t179 => (if t178.toList = t179.toList then (if t170.toList = bt172.1.toList then (if t171 = bt172.2 then ((quipulaw11_fixed.f k).bind fun t180 => (some t180)) else (some false)) else (some false)) else (some false)))) else (some false)))) else (some false))))) = some r := H
  have A3 := Aside0.mk A30
  clear A30
  replace H := Option.bind_eq_some_iff.mp H
  obtain ⟨⟨t172, t173⟩, A40, H⟩ := H
  replace H : ((cursor_Put8.f k a0).bind fun t174 => ((quipuref11_Put.f k a0 1).bind fun t175 => (if t174.toList = t175.toList then ((cursor_Put16.f k a0).bind fun t176 => ((quipuref11_Put.f k a0 2).bind fun t177 => (if t176.toList = t177.toList then ((cursor_Put32.f k a0).bind fun t178 => ((quipuref11_Put.f k a0 4).bind fun t179 => (if t178.toList = t179.toList then (if t170.toList = t172.toList then (if t171 = t173 then ((quipulaw11_fixed.f k).bind fun t180 => (some t180)) else (some false)) else (some false)) else (some false)))) else (some false)))) else (some false)))) = some r := H
  have A4 := Aside0.mk A40
  clear A40
  replace H := Option.bind_eq_some_iff.mp H
  obtain ⟨t174, A50, H⟩ := H
  replace H : ((quipuref11_Put.f k a0 1).bind fun t175 => (if t174.toList = t175.toList then ((cursor_Put16.f k a0).bind fun t176 => ((quipuref11_Put.f k a0 2).bind fun t177 => (if t176.toList = t177.toList then ((cursor_Put32.f k a0).bind fun t178 => ((quipuref11_Put.f k a0 4).bind fun t179 => (if t178.toList = t179.toList then (if t170.toList = t172.toList then (if t171 = t173 then ((quipulaw11_fixed.f k).bind fun t180 => (some t180)) else (some false)) else (some false)) else (some false)))) else (some false)))) else (some false))) = some r := H
  have A5 := Aside0.mk A50
  clear A50
  replace H := Option.bind_eq_some_iff.mp H
  obtain ⟨t175, A60, H⟩ := H
  replace H : (if t174.toList = t175.toList then ((cursor_Put16.f k a0).bind fun t176 => ((quipuref11_Put.f k a0 2).bind fun t177 => (if t176.toList = t177.toList then ((cursor_Put32.f k a0).bind fun t178 => ((quipuref11_Put.f k a0 4).bind fun t179 => (if t178.toList = t179.toList then (if t170.toList = t172.toList then (if t171 = t173 then ((quipulaw11_fixed.f k).bind fun t180 => (some t180)) else (some false)) else (some false)) else (some false)))) else (some false)))) else (some false)) = some r := H
  have A6 := Aside0.mk A60
  clear A60
  by_cases c7 : t174.toList = t175.toList
  · rw [if_pos c7] at H
    have c7b0 : (t174.toList == t175.toList) = true := beq_iff_eq.mpr c7
    have c7b1 : (t174.toList != t175.toList) = false := bne_eq_false_iff_eq.mpr c7
    clear c7
    replace H := Option.bind_eq_some_iff.mp H
    obtain ⟨t176, A80, H⟩ := H
    replace H : ((quipuref11_Put.f k a0 2).bind fun t177 => (if t176.toList = t177.toList then ((cursor_Put32.f k a0).bind fun t178 => ((quipuref11_Put.f k a0 4).bind fun t179 => (if t178.toList = t179.toList then (if t170.toList = t172.toList then (if t171 = t173 then ((quipulaw11_fixed.f k).bind fun t180 => (some t180)) else (some false)) else (some false)) else (some false)))) else (some false))) = some r := H
    have A8 := Aside0.mk A80
    clear A80
    replace H := Option.bind_eq_some_iff.mp H
    obtain ⟨t177, A90, H⟩ := H
    replace H : (if t176.toList = t177.toList then ((cursor_Put32.f k a0).bind fun t178 => ((quipuref11_Put.f k a0 4).bind fun t179 => (if t178.toList = t179.toList then (if t170.toList = t172.toList then (if t171 = t173 then ((quipulaw11_fixed.f k).bind fun t180 => (some t180)) else (some false)) else (some false)) else (some false)))) else (some false)) = some r := H
    have A9 := Aside0.mk A90
    clear A90
    by_cases c10 : t176.toList = t177.toList
    · rw [if_pos c10] at H
      have c10b0 : (t176.toList == t177.toList) = true := beq_iff_eq.mpr c10
      have c10b1 : (t176.toList != t177.toList) = false := bne_eq_false_iff_eq.mpr c10
      clear c10
      replace H := Option.bind_eq_some_iff.mp H
      obtain ⟨t178, A110, H⟩ := H
      replace H : ((quipuref11_Put.f k a0 4).bind fun t179 => (if t178.toList = t179.toList then (if t170.toList = t172.toList then (if t171 = t173 then ((quipulaw11_fixed.f k).bind fun t180 => (some t180)) else (some false)) else (some false)) else (some false))) = some r := H
      have A11 := Aside0.mk A110
      clear A110
      replace H := Option.bind_eq_some_iff.mp H
      obtain ⟨t179, A120, H⟩ := H
      replace H : (if t178.toList = t179.toList then (if t170.toList = t172.toList then (if t171 = t173 then ((quipulaw11_fixed.f k).bind fun t180 => (some t180)) else (some false)) else (some false)) else (some false)) = some r := H
      have A12 := Aside0.mk A120
      clear A120
      by_cases c13 : t178.toList = t179.toList
      · rw [if_pos c13] at H
        have c13b0 : (t178.toList == t179.toList) = true := beq_iff_eq.mpr c13
        have c13b1 : (t178.toList != t179.toList) = false := bne_eq_false_iff_eq.mpr c13
        clear c13
        by_cases c14 : t170.toList = t172.toList
        · rw [if_pos c14] at H
          have c14b0 : (t170.toList == t172.toList) = true := beq_iff_eq.mpr c14
          have c14b1 : (t170.toList != t172.toList) = false := bne_eq_false_iff_eq.mpr c14
          clear c14
          by_cases c15 : t171 = t173
          · rw [if_pos c15] at H
            have c15b0 : (t171 == t173) = true := beq_iff_eq.mpr c15
            have c15b1 : (t171 != t173) = false := bne_eq_false_iff_eq.mpr c15
            clear c15
            replace H := Option.bind_eq_some_iff.mp H
            obtain ⟨t180, A160, H⟩ := H
            replace H : (some t180) = some r := H
            have A16 := Aside0.mk A160
            clear A160
            obtain rfl := Option.some.inj H
            go_enter Try.func5, Try.ntmps5
            go_wp2_with (first | ((with_reducible refine gate_callee (f := 15) rfl ?_); refine goesL_ (some 11) rfl rfl Try.func15 (by kernel_rfl) rfl #[.string a1] rfl (by (try simp only [List.map_toArray, List.map_cons, List.map_nil]); first | done | rfl | (simp only [List.length_drop, List.length_take]; rfl)) ?_; (with_reducible refine (cursor_PutText.calls k a1 t170 t171 _ A3.out).mono ?_); rintro e w17 ⟨rfl, hb⟩; refine ⟨_, rfl, ?_⟩; have n0_ := Aside0.mk (below_step (by repeat (first | (with_reducible first | exact HB.out | apply below_alloc | apply pw_below_drewN | apply below_drew1) | exact HB.out)) hb); clear HB; have HB := n0_; clear n0_; (try clear hb); (try clear hb2); (try clear hk); (try clear hi)) | ((with_reducible refine gate_callee (f := 16) rfl ?_); refine goesL_ (some 16) rfl rfl Try.func16 (by kernel_rfl) rfl #[.string a1] rfl (by (try simp only [List.map_toArray, List.map_cons, List.map_nil]); first | done | rfl | (simp only [List.length_drop, List.length_take]; rfl)) ?_; (with_reducible refine (quipuref11_PutText.calls k a1 t172 t173 _ A4.out).mono ?_); rintro e w18 ⟨rfl, hb⟩; refine ⟨_, rfl, ?_⟩; have n0_ := Aside0.mk (below_step (by repeat (first | (with_reducible first | exact HB.out | apply below_alloc | apply pw_below_drewN | apply below_drew1) | exact HB.out)) hb); clear HB; have HB := n0_; clear n0_; (try clear hb); (try clear hb2); (try clear hk); (try clear hi)) | ((with_reducible refine gate_callee (f := 17) rfl ?_); refine goesL_ (some 20) rfl rfl Try.func17 (by kernel_rfl) rfl #[.int .i64 a0] rfl (by (try simp only [List.map_toArray, List.map_cons, List.map_nil]); first | done | rfl | (simp only [List.length_drop, List.length_take]; rfl)) ?_; (with_reducible refine (cursor_Put8.calls k a0 t174 _ A5.out).mono ?_); rintro e w19 ⟨rfl, hb⟩; refine ⟨_, rfl, ?_⟩; have n0_ := Aside0.mk (below_step (by repeat (first | (with_reducible first | exact HB.out | apply below_alloc | apply pw_below_drewN | apply below_drew1) | exact HB.out)) hb); clear HB; have HB := n0_; clear n0_; (try clear hb); (try clear hb2); (try clear hk); (try clear hi)) | ((with_reducible refine gate_callee (f := 18) rfl ?_); refine goesL_ (some 22) rfl rfl Try.func18 (by kernel_rfl) rfl #[.int .i64 a0, .int .i64 1] rfl (by (try simp only [List.map_toArray, List.map_cons, List.map_nil]); first | done | rfl | (simp only [List.length_drop, List.length_take]; rfl)) ?_; (with_reducible refine (quipuref11_Put.calls k a0 1 t175 _ A6.out).mono ?_); rintro e w20 ⟨rfl, hb⟩; refine ⟨_, rfl, ?_⟩; have n0_ := Aside0.mk (below_step (by repeat (first | (with_reducible first | exact HB.out | apply below_alloc | apply pw_below_drewN | apply below_drew1) | exact HB.out)) hb); clear HB; have HB := n0_; clear n0_; (try clear hb); (try clear hb2); (try clear hk); (try clear hi)) | (go_at_call 19; (with_reducible refine (cursor_Put16.calls k a0 t176 _ A8.out).mono ?_); rintro e w21 ⟨rfl, hb⟩; have n0_ := Aside0.mk (below_step (by repeat (first | (with_reducible first | exact HB.out | apply below_alloc | apply pw_below_drewN | apply below_drew1) | exact HB.out)) hb); clear HB; have HB := n0_; clear n0_; (try clear hb); (try clear hb2); (try clear hk); (try clear hi)) | (go_at_call 18; (with_reducible refine (quipuref11_Put.calls k a0 2 t177 _ A9.out).mono ?_); rintro e w22 ⟨rfl, hb⟩; have n0_ := Aside0.mk (below_step (by repeat (first | (with_reducible first | exact HB.out | apply below_alloc | apply pw_below_drewN | apply below_drew1) | exact HB.out)) hb); clear HB; have HB := n0_; clear n0_; (try clear hb); (try clear hb2); (try clear hk); (try clear hi)) | (go_at_call 20; (with_reducible refine (cursor_Put32.calls k a0 t178 _ A11.out).mono ?_); rintro e w23 ⟨rfl, hb⟩; have n0_ := Aside0.mk (below_step (by repeat (first | (with_reducible first | exact HB.out | apply below_alloc | apply pw_below_drewN | apply below_drew1) | exact HB.out)) hb); clear HB; have HB := n0_; clear n0_; (try clear hb); (try clear hb2); (try clear hk); (try clear hi)) | (go_at_call 18; (with_reducible refine (quipuref11_Put.calls k a0 4 t179 _ A12.out).mono ?_); rintro e w24 ⟨rfl, hb⟩; have n0_ := Aside0.mk (below_step (by repeat (first | (with_reducible first | exact HB.out | apply below_alloc | apply pw_below_drewN | apply below_drew1) | exact HB.out)) hb); clear HB; have HB := n0_; clear n0_; (try clear hb); (try clear hb2); (try clear hk); (try clear hi)) | (go_at_call 14; (with_reducible refine (quipulaw11_fixed.calls k  t180 _ A16.out).mono ?_); rintro e w25 ⟨rfl, hb⟩; have n0_ := Aside0.mk (below_step (by repeat (first | (with_reducible first | exact HB.out | apply below_alloc | apply pw_below_drewN | apply below_drew1) | exact HB.out)) hb); clear HB; have HB := n0_; clear n0_; (try clear hb); (try clear hb2); (try clear hk); (try clear hi)))
            go_ret
            exact ⟨by first | rfl | (simp [errW_none, errW_some] <;> rfl) | (simp [*, errW_none, errW_some] <;> rfl), by repeat (first | (with_reducible first | exact HB.out | apply below_alloc | apply pw_below_drewN | apply below_drew1) | exact HB.out)⟩
          · rw [if_neg c15] at H
            have c15b0 : (t171 == t173) = false := beq_eq_false_iff_ne.mpr c15
            have c15b1 : (t171 != t173) = true := bne_iff_ne.mpr c15
            obtain rfl := Option.some.inj H
            go_enter Try.func5, Try.ntmps5
            go_wp2_with (first | ((with_reducible refine gate_callee (f := 15) rfl ?_); refine goesL_ (some 11) rfl rfl Try.func15 (by kernel_rfl) rfl #[.string a1] rfl (by (try simp only [List.map_toArray, List.map_cons, List.map_nil]); first | done | rfl | (simp only [List.length_drop, List.length_take]; rfl)) ?_; (with_reducible refine (cursor_PutText.calls k a1 t170 t171 _ A3.out).mono ?_); rintro e w26 ⟨rfl, hb⟩; refine ⟨_, rfl, ?_⟩; have n0_ := Aside0.mk (below_step (by repeat (first | (with_reducible first | exact HB.out | apply below_alloc | apply pw_below_drewN | apply below_drew1) | exact HB.out)) hb); clear HB; have HB := n0_; clear n0_; (try clear hb); (try clear hb2); (try clear hk); (try clear hi)) | ((with_reducible refine gate_callee (f := 16) rfl ?_); refine goesL_ (some 16) rfl rfl Try.func16 (by kernel_rfl) rfl #[.string a1] rfl (by (try simp only [List.map_toArray, List.map_cons, List.map_nil]); first | done | rfl | (simp only [List.length_drop, List.length_take]; rfl)) ?_; (with_reducible refine (quipuref11_PutText.calls k a1 t172 t173 _ A4.out).mono ?_); rintro e w27 ⟨rfl, hb⟩; refine ⟨_, rfl, ?_⟩; have n0_ := Aside0.mk (below_step (by repeat (first | (with_reducible first | exact HB.out | apply below_alloc | apply pw_below_drewN | apply below_drew1) | exact HB.out)) hb); clear HB; have HB := n0_; clear n0_; (try clear hb); (try clear hb2); (try clear hk); (try clear hi)) | ((with_reducible refine gate_callee (f := 17) rfl ?_); refine goesL_ (some 20) rfl rfl Try.func17 (by kernel_rfl) rfl #[.int .i64 a0] rfl (by (try simp only [List.map_toArray, List.map_cons, List.map_nil]); first | done | rfl | (simp only [List.length_drop, List.length_take]; rfl)) ?_; (with_reducible refine (cursor_Put8.calls k a0 t174 _ A5.out).mono ?_); rintro e w28 ⟨rfl, hb⟩; refine ⟨_, rfl, ?_⟩; have n0_ := Aside0.mk (below_step (by repeat (first | (with_reducible first | exact HB.out | apply below_alloc | apply pw_below_drewN | apply below_drew1) | exact HB.out)) hb); clear HB; have HB := n0_; clear n0_; (try clear hb); (try clear hb2); (try clear hk); (try clear hi)) | ((with_reducible refine gate_callee (f := 18) rfl ?_); refine goesL_ (some 22) rfl rfl Try.func18 (by kernel_rfl) rfl #[.int .i64 a0, .int .i64 1] rfl (by (try simp only [List.map_toArray, List.map_cons, List.map_nil]); first | done | rfl | (simp only [List.length_drop, List.length_take]; rfl)) ?_; (with_reducible refine (quipuref11_Put.calls k a0 1 t175 _ A6.out).mono ?_); rintro e w29 ⟨rfl, hb⟩; refine ⟨_, rfl, ?_⟩; have n0_ := Aside0.mk (below_step (by repeat (first | (with_reducible first | exact HB.out | apply below_alloc | apply pw_below_drewN | apply below_drew1) | exact HB.out)) hb); clear HB; have HB := n0_; clear n0_; (try clear hb); (try clear hb2); (try clear hk); (try clear hi)) | (go_at_call 19; (with_reducible refine (cursor_Put16.calls k a0 t176 _ A8.out).mono ?_); rintro e w30 ⟨rfl, hb⟩; have n0_ := Aside0.mk (below_step (by repeat (first | (with_reducible first | exact HB.out | apply below_alloc | apply pw_below_drewN | apply below_drew1) | exact HB.out)) hb); clear HB; have HB := n0_; clear n0_; (try clear hb); (try clear hb2); (try clear hk); (try clear hi)) | (go_at_call 18; (with_reducible refine (quipuref11_Put.calls k a0 2 t177 _ A9.out).mono ?_); rintro e w31 ⟨rfl, hb⟩; have n0_ := Aside0.mk (below_step (by repeat (first | (with_reducible first | exact HB.out | apply below_alloc | apply pw_below_drewN | apply below_drew1) | exact HB.out)) hb); clear HB; have HB := n0_; clear n0_; (try clear hb); (try clear hb2); (try clear hk); (try clear hi)) | (go_at_call 20; (with_reducible refine (cursor_Put32.calls k a0 t178 _ A11.out).mono ?_); rintro e w32 ⟨rfl, hb⟩; have n0_ := Aside0.mk (below_step (by repeat (first | (with_reducible first | exact HB.out | apply below_alloc | apply pw_below_drewN | apply below_drew1) | exact HB.out)) hb); clear HB; have HB := n0_; clear n0_; (try clear hb); (try clear hb2); (try clear hk); (try clear hi)) | (go_at_call 18; (with_reducible refine (quipuref11_Put.calls k a0 4 t179 _ A12.out).mono ?_); rintro e w33 ⟨rfl, hb⟩; have n0_ := Aside0.mk (below_step (by repeat (first | (with_reducible first | exact HB.out | apply below_alloc | apply pw_below_drewN | apply below_drew1) | exact HB.out)) hb); clear HB; have HB := n0_; clear n0_; (try clear hb); (try clear hb2); (try clear hk); (try clear hi)))
            go_ret
            exact ⟨by first | rfl | (simp [errW_none, errW_some] <;> rfl) | (simp [*, errW_none, errW_some] <;> rfl), by repeat (first | (with_reducible first | exact HB.out | apply below_alloc | apply pw_below_drewN | apply below_drew1) | exact HB.out)⟩
        · rw [if_neg c14] at H
          have c14b0 : (t170.toList == t172.toList) = false := beq_eq_false_iff_ne.mpr c14
          have c14b1 : (t170.toList != t172.toList) = true := bne_iff_ne.mpr c14
          obtain rfl := Option.some.inj H
          go_enter Try.func5, Try.ntmps5
          go_wp2_with (first | ((with_reducible refine gate_callee (f := 15) rfl ?_); refine goesL_ (some 11) rfl rfl Try.func15 (by kernel_rfl) rfl #[.string a1] rfl (by (try simp only [List.map_toArray, List.map_cons, List.map_nil]); first | done | rfl | (simp only [List.length_drop, List.length_take]; rfl)) ?_; (with_reducible refine (cursor_PutText.calls k a1 t170 t171 _ A3.out).mono ?_); rintro e w34 ⟨rfl, hb⟩; refine ⟨_, rfl, ?_⟩; have n0_ := Aside0.mk (below_step (by repeat (first | (with_reducible first | exact HB.out | apply below_alloc | apply pw_below_drewN | apply below_drew1) | exact HB.out)) hb); clear HB; have HB := n0_; clear n0_; (try clear hb); (try clear hb2); (try clear hk); (try clear hi)) | ((with_reducible refine gate_callee (f := 16) rfl ?_); refine goesL_ (some 16) rfl rfl Try.func16 (by kernel_rfl) rfl #[.string a1] rfl (by (try simp only [List.map_toArray, List.map_cons, List.map_nil]); first | done | rfl | (simp only [List.length_drop, List.length_take]; rfl)) ?_; (with_reducible refine (quipuref11_PutText.calls k a1 t172 t173 _ A4.out).mono ?_); rintro e w35 ⟨rfl, hb⟩; refine ⟨_, rfl, ?_⟩; have n0_ := Aside0.mk (below_step (by repeat (first | (with_reducible first | exact HB.out | apply below_alloc | apply pw_below_drewN | apply below_drew1) | exact HB.out)) hb); clear HB; have HB := n0_; clear n0_; (try clear hb); (try clear hb2); (try clear hk); (try clear hi)) | ((with_reducible refine gate_callee (f := 17) rfl ?_); refine goesL_ (some 20) rfl rfl Try.func17 (by kernel_rfl) rfl #[.int .i64 a0] rfl (by (try simp only [List.map_toArray, List.map_cons, List.map_nil]); first | done | rfl | (simp only [List.length_drop, List.length_take]; rfl)) ?_; (with_reducible refine (cursor_Put8.calls k a0 t174 _ A5.out).mono ?_); rintro e w36 ⟨rfl, hb⟩; refine ⟨_, rfl, ?_⟩; have n0_ := Aside0.mk (below_step (by repeat (first | (with_reducible first | exact HB.out | apply below_alloc | apply pw_below_drewN | apply below_drew1) | exact HB.out)) hb); clear HB; have HB := n0_; clear n0_; (try clear hb); (try clear hb2); (try clear hk); (try clear hi)) | ((with_reducible refine gate_callee (f := 18) rfl ?_); refine goesL_ (some 22) rfl rfl Try.func18 (by kernel_rfl) rfl #[.int .i64 a0, .int .i64 1] rfl (by (try simp only [List.map_toArray, List.map_cons, List.map_nil]); first | done | rfl | (simp only [List.length_drop, List.length_take]; rfl)) ?_; (with_reducible refine (quipuref11_Put.calls k a0 1 t175 _ A6.out).mono ?_); rintro e w37 ⟨rfl, hb⟩; refine ⟨_, rfl, ?_⟩; have n0_ := Aside0.mk (below_step (by repeat (first | (with_reducible first | exact HB.out | apply below_alloc | apply pw_below_drewN | apply below_drew1) | exact HB.out)) hb); clear HB; have HB := n0_; clear n0_; (try clear hb); (try clear hb2); (try clear hk); (try clear hi)) | (go_at_call 19; (with_reducible refine (cursor_Put16.calls k a0 t176 _ A8.out).mono ?_); rintro e w38 ⟨rfl, hb⟩; have n0_ := Aside0.mk (below_step (by repeat (first | (with_reducible first | exact HB.out | apply below_alloc | apply pw_below_drewN | apply below_drew1) | exact HB.out)) hb); clear HB; have HB := n0_; clear n0_; (try clear hb); (try clear hb2); (try clear hk); (try clear hi)) | (go_at_call 18; (with_reducible refine (quipuref11_Put.calls k a0 2 t177 _ A9.out).mono ?_); rintro e w39 ⟨rfl, hb⟩; have n0_ := Aside0.mk (below_step (by repeat (first | (with_reducible first | exact HB.out | apply below_alloc | apply pw_below_drewN | apply below_drew1) | exact HB.out)) hb); clear HB; have HB := n0_; clear n0_; (try clear hb); (try clear hb2); (try clear hk); (try clear hi)) | (go_at_call 20; (with_reducible refine (cursor_Put32.calls k a0 t178 _ A11.out).mono ?_); rintro e w40 ⟨rfl, hb⟩; have n0_ := Aside0.mk (below_step (by repeat (first | (with_reducible first | exact HB.out | apply below_alloc | apply pw_below_drewN | apply below_drew1) | exact HB.out)) hb); clear HB; have HB := n0_; clear n0_; (try clear hb); (try clear hb2); (try clear hk); (try clear hi)) | (go_at_call 18; (with_reducible refine (quipuref11_Put.calls k a0 4 t179 _ A12.out).mono ?_); rintro e w41 ⟨rfl, hb⟩; have n0_ := Aside0.mk (below_step (by repeat (first | (with_reducible first | exact HB.out | apply below_alloc | apply pw_below_drewN | apply below_drew1) | exact HB.out)) hb); clear HB; have HB := n0_; clear n0_; (try clear hb); (try clear hb2); (try clear hk); (try clear hi)))
          go_ret
          exact ⟨by first | rfl | (simp [errW_none, errW_some] <;> rfl) | (simp [*, errW_none, errW_some] <;> rfl), by repeat (first | (with_reducible first | exact HB.out | apply below_alloc | apply pw_below_drewN | apply below_drew1) | exact HB.out)⟩
      · rw [if_neg c13] at H
        have c13b0 : (t178.toList == t179.toList) = false := beq_eq_false_iff_ne.mpr c13
        have c13b1 : (t178.toList != t179.toList) = true := bne_iff_ne.mpr c13
        obtain rfl := Option.some.inj H
        go_enter Try.func5, Try.ntmps5
        go_wp2_with (first | ((with_reducible refine gate_callee (f := 15) rfl ?_); refine goesL_ (some 11) rfl rfl Try.func15 (by kernel_rfl) rfl #[.string a1] rfl (by (try simp only [List.map_toArray, List.map_cons, List.map_nil]); first | done | rfl | (simp only [List.length_drop, List.length_take]; rfl)) ?_; (with_reducible refine (cursor_PutText.calls k a1 t170 t171 _ A3.out).mono ?_); rintro e w42 ⟨rfl, hb⟩; refine ⟨_, rfl, ?_⟩; have n0_ := Aside0.mk (below_step (by repeat (first | (with_reducible first | exact HB.out | apply below_alloc | apply pw_below_drewN | apply below_drew1) | exact HB.out)) hb); clear HB; have HB := n0_; clear n0_; (try clear hb); (try clear hb2); (try clear hk); (try clear hi)) | ((with_reducible refine gate_callee (f := 16) rfl ?_); refine goesL_ (some 16) rfl rfl Try.func16 (by kernel_rfl) rfl #[.string a1] rfl (by (try simp only [List.map_toArray, List.map_cons, List.map_nil]); first | done | rfl | (simp only [List.length_drop, List.length_take]; rfl)) ?_; (with_reducible refine (quipuref11_PutText.calls k a1 t172 t173 _ A4.out).mono ?_); rintro e w43 ⟨rfl, hb⟩; refine ⟨_, rfl, ?_⟩; have n0_ := Aside0.mk (below_step (by repeat (first | (with_reducible first | exact HB.out | apply below_alloc | apply pw_below_drewN | apply below_drew1) | exact HB.out)) hb); clear HB; have HB := n0_; clear n0_; (try clear hb); (try clear hb2); (try clear hk); (try clear hi)) | ((with_reducible refine gate_callee (f := 17) rfl ?_); refine goesL_ (some 20) rfl rfl Try.func17 (by kernel_rfl) rfl #[.int .i64 a0] rfl (by (try simp only [List.map_toArray, List.map_cons, List.map_nil]); first | done | rfl | (simp only [List.length_drop, List.length_take]; rfl)) ?_; (with_reducible refine (cursor_Put8.calls k a0 t174 _ A5.out).mono ?_); rintro e w44 ⟨rfl, hb⟩; refine ⟨_, rfl, ?_⟩; have n0_ := Aside0.mk (below_step (by repeat (first | (with_reducible first | exact HB.out | apply below_alloc | apply pw_below_drewN | apply below_drew1) | exact HB.out)) hb); clear HB; have HB := n0_; clear n0_; (try clear hb); (try clear hb2); (try clear hk); (try clear hi)) | ((with_reducible refine gate_callee (f := 18) rfl ?_); refine goesL_ (some 22) rfl rfl Try.func18 (by kernel_rfl) rfl #[.int .i64 a0, .int .i64 1] rfl (by (try simp only [List.map_toArray, List.map_cons, List.map_nil]); first | done | rfl | (simp only [List.length_drop, List.length_take]; rfl)) ?_; (with_reducible refine (quipuref11_Put.calls k a0 1 t175 _ A6.out).mono ?_); rintro e w45 ⟨rfl, hb⟩; refine ⟨_, rfl, ?_⟩; have n0_ := Aside0.mk (below_step (by repeat (first | (with_reducible first | exact HB.out | apply below_alloc | apply pw_below_drewN | apply below_drew1) | exact HB.out)) hb); clear HB; have HB := n0_; clear n0_; (try clear hb); (try clear hb2); (try clear hk); (try clear hi)) | (go_at_call 19; (with_reducible refine (cursor_Put16.calls k a0 t176 _ A8.out).mono ?_); rintro e w46 ⟨rfl, hb⟩; have n0_ := Aside0.mk (below_step (by repeat (first | (with_reducible first | exact HB.out | apply below_alloc | apply pw_below_drewN | apply below_drew1) | exact HB.out)) hb); clear HB; have HB := n0_; clear n0_; (try clear hb); (try clear hb2); (try clear hk); (try clear hi)) | (go_at_call 18; (with_reducible refine (quipuref11_Put.calls k a0 2 t177 _ A9.out).mono ?_); rintro e w47 ⟨rfl, hb⟩; have n0_ := Aside0.mk (below_step (by repeat (first | (with_reducible first | exact HB.out | apply below_alloc | apply pw_below_drewN | apply below_drew1) | exact HB.out)) hb); clear HB; have HB := n0_; clear n0_; (try clear hb); (try clear hb2); (try clear hk); (try clear hi)) | (go_at_call 20; (with_reducible refine (cursor_Put32.calls k a0 t178 _ A11.out).mono ?_); rintro e w48 ⟨rfl, hb⟩; have n0_ := Aside0.mk (below_step (by repeat (first | (with_reducible first | exact HB.out | apply below_alloc | apply pw_below_drewN | apply below_drew1) | exact HB.out)) hb); clear HB; have HB := n0_; clear n0_; (try clear hb); (try clear hb2); (try clear hk); (try clear hi)) | (go_at_call 18; (with_reducible refine (quipuref11_Put.calls k a0 4 t179 _ A12.out).mono ?_); rintro e w49 ⟨rfl, hb⟩; have n0_ := Aside0.mk (below_step (by repeat (first | (with_reducible first | exact HB.out | apply below_alloc | apply pw_below_drewN | apply below_drew1) | exact HB.out)) hb); clear HB; have HB := n0_; clear n0_; (try clear hb); (try clear hb2); (try clear hk); (try clear hi)))
        go_ret
        exact ⟨by first | rfl | (simp [errW_none, errW_some] <;> rfl) | (simp [*, errW_none, errW_some] <;> rfl), by repeat (first | (with_reducible first | exact HB.out | apply below_alloc | apply pw_below_drewN | apply below_drew1) | exact HB.out)⟩
    · rw [if_neg c10] at H
      have c10b0 : (t176.toList == t177.toList) = false := beq_eq_false_iff_ne.mpr c10
      have c10b1 : (t176.toList != t177.toList) = true := bne_iff_ne.mpr c10
      obtain rfl := Option.some.inj H
      go_enter Try.func5, Try.ntmps5
      go_wp2_with (first | ((with_reducible refine gate_callee (f := 15) rfl ?_); refine goesL_ (some 11) rfl rfl Try.func15 (by kernel_rfl) rfl #[.string a1] rfl (by (try simp only [List.map_toArray, List.map_cons, List.map_nil]); first | done | rfl | (simp only [List.length_drop, List.length_take]; rfl)) ?_; (with_reducible refine (cursor_PutText.calls k a1 t170 t171 _ A3.out).mono ?_); rintro e w50 ⟨rfl, hb⟩; refine ⟨_, rfl, ?_⟩; have n0_ := Aside0.mk (below_step (by repeat (first | (with_reducible first | exact HB.out | apply below_alloc | apply pw_below_drewN | apply below_drew1) | exact HB.out)) hb); clear HB; have HB := n0_; clear n0_; (try clear hb); (try clear hb2); (try clear hk); (try clear hi)) | ((with_reducible refine gate_callee (f := 16) rfl ?_); refine goesL_ (some 16) rfl rfl Try.func16 (by kernel_rfl) rfl #[.string a1] rfl (by (try simp only [List.map_toArray, List.map_cons, List.map_nil]); first | done | rfl | (simp only [List.length_drop, List.length_take]; rfl)) ?_; (with_reducible refine (quipuref11_PutText.calls k a1 t172 t173 _ A4.out).mono ?_); rintro e w51 ⟨rfl, hb⟩; refine ⟨_, rfl, ?_⟩; have n0_ := Aside0.mk (below_step (by repeat (first | (with_reducible first | exact HB.out | apply below_alloc | apply pw_below_drewN | apply below_drew1) | exact HB.out)) hb); clear HB; have HB := n0_; clear n0_; (try clear hb); (try clear hb2); (try clear hk); (try clear hi)) | ((with_reducible refine gate_callee (f := 17) rfl ?_); refine goesL_ (some 20) rfl rfl Try.func17 (by kernel_rfl) rfl #[.int .i64 a0] rfl (by (try simp only [List.map_toArray, List.map_cons, List.map_nil]); first | done | rfl | (simp only [List.length_drop, List.length_take]; rfl)) ?_; (with_reducible refine (cursor_Put8.calls k a0 t174 _ A5.out).mono ?_); rintro e w52 ⟨rfl, hb⟩; refine ⟨_, rfl, ?_⟩; have n0_ := Aside0.mk (below_step (by repeat (first | (with_reducible first | exact HB.out | apply below_alloc | apply pw_below_drewN | apply below_drew1) | exact HB.out)) hb); clear HB; have HB := n0_; clear n0_; (try clear hb); (try clear hb2); (try clear hk); (try clear hi)) | ((with_reducible refine gate_callee (f := 18) rfl ?_); refine goesL_ (some 22) rfl rfl Try.func18 (by kernel_rfl) rfl #[.int .i64 a0, .int .i64 1] rfl (by (try simp only [List.map_toArray, List.map_cons, List.map_nil]); first | done | rfl | (simp only [List.length_drop, List.length_take]; rfl)) ?_; (with_reducible refine (quipuref11_Put.calls k a0 1 t175 _ A6.out).mono ?_); rintro e w53 ⟨rfl, hb⟩; refine ⟨_, rfl, ?_⟩; have n0_ := Aside0.mk (below_step (by repeat (first | (with_reducible first | exact HB.out | apply below_alloc | apply pw_below_drewN | apply below_drew1) | exact HB.out)) hb); clear HB; have HB := n0_; clear n0_; (try clear hb); (try clear hb2); (try clear hk); (try clear hi)) | (go_at_call 19; (with_reducible refine (cursor_Put16.calls k a0 t176 _ A8.out).mono ?_); rintro e w54 ⟨rfl, hb⟩; have n0_ := Aside0.mk (below_step (by repeat (first | (with_reducible first | exact HB.out | apply below_alloc | apply pw_below_drewN | apply below_drew1) | exact HB.out)) hb); clear HB; have HB := n0_; clear n0_; (try clear hb); (try clear hb2); (try clear hk); (try clear hi)) | (go_at_call 18; (with_reducible refine (quipuref11_Put.calls k a0 2 t177 _ A9.out).mono ?_); rintro e w55 ⟨rfl, hb⟩; have n0_ := Aside0.mk (below_step (by repeat (first | (with_reducible first | exact HB.out | apply below_alloc | apply pw_below_drewN | apply below_drew1) | exact HB.out)) hb); clear HB; have HB := n0_; clear n0_; (try clear hb); (try clear hb2); (try clear hk); (try clear hi)))
      go_ret
      exact ⟨by first | rfl | (simp [errW_none, errW_some] <;> rfl) | (simp [*, errW_none, errW_some] <;> rfl), by repeat (first | (with_reducible first | exact HB.out | apply below_alloc | apply pw_below_drewN | apply below_drew1) | exact HB.out)⟩
  · rw [if_neg c7] at H
    have c7b0 : (t174.toList == t175.toList) = false := beq_eq_false_iff_ne.mpr c7
    have c7b1 : (t174.toList != t175.toList) = true := bne_iff_ne.mpr c7
    obtain rfl := Option.some.inj H
    go_enter Try.func5, Try.ntmps5
    go_wp2_with (first | ((with_reducible refine gate_callee (f := 15) rfl ?_); refine goesL_ (some 11) rfl rfl Try.func15 (by kernel_rfl) rfl #[.string a1] rfl (by (try simp only [List.map_toArray, List.map_cons, List.map_nil]); first | done | rfl | (simp only [List.length_drop, List.length_take]; rfl)) ?_; (with_reducible refine (cursor_PutText.calls k a1 t170 t171 _ A3.out).mono ?_); rintro e w56 ⟨rfl, hb⟩; refine ⟨_, rfl, ?_⟩; have n0_ := Aside0.mk (below_step (by repeat (first | (with_reducible first | exact HB.out | apply below_alloc | apply pw_below_drewN | apply below_drew1) | exact HB.out)) hb); clear HB; have HB := n0_; clear n0_; (try clear hb); (try clear hb2); (try clear hk); (try clear hi)) | ((with_reducible refine gate_callee (f := 16) rfl ?_); refine goesL_ (some 16) rfl rfl Try.func16 (by kernel_rfl) rfl #[.string a1] rfl (by (try simp only [List.map_toArray, List.map_cons, List.map_nil]); first | done | rfl | (simp only [List.length_drop, List.length_take]; rfl)) ?_; (with_reducible refine (quipuref11_PutText.calls k a1 t172 t173 _ A4.out).mono ?_); rintro e w57 ⟨rfl, hb⟩; refine ⟨_, rfl, ?_⟩; have n0_ := Aside0.mk (below_step (by repeat (first | (with_reducible first | exact HB.out | apply below_alloc | apply pw_below_drewN | apply below_drew1) | exact HB.out)) hb); clear HB; have HB := n0_; clear n0_; (try clear hb); (try clear hb2); (try clear hk); (try clear hi)) | ((with_reducible refine gate_callee (f := 17) rfl ?_); refine goesL_ (some 20) rfl rfl Try.func17 (by kernel_rfl) rfl #[.int .i64 a0] rfl (by (try simp only [List.map_toArray, List.map_cons, List.map_nil]); first | done | rfl | (simp only [List.length_drop, List.length_take]; rfl)) ?_; (with_reducible refine (cursor_Put8.calls k a0 t174 _ A5.out).mono ?_); rintro e w58 ⟨rfl, hb⟩; refine ⟨_, rfl, ?_⟩; have n0_ := Aside0.mk (below_step (by repeat (first | (with_reducible first | exact HB.out | apply below_alloc | apply pw_below_drewN | apply below_drew1) | exact HB.out)) hb); clear HB; have HB := n0_; clear n0_; (try clear hb); (try clear hb2); (try clear hk); (try clear hi)) | ((with_reducible refine gate_callee (f := 18) rfl ?_); refine goesL_ (some 22) rfl rfl Try.func18 (by kernel_rfl) rfl #[.int .i64 a0, .int .i64 1] rfl (by (try simp only [List.map_toArray, List.map_cons, List.map_nil]); first | done | rfl | (simp only [List.length_drop, List.length_take]; rfl)) ?_; (with_reducible refine (quipuref11_Put.calls k a0 1 t175 _ A6.out).mono ?_); rintro e w59 ⟨rfl, hb⟩; refine ⟨_, rfl, ?_⟩; have n0_ := Aside0.mk (below_step (by repeat (first | (with_reducible first | exact HB.out | apply below_alloc | apply pw_below_drewN | apply below_drew1) | exact HB.out)) hb); clear HB; have HB := n0_; clear n0_; (try clear hb); (try clear hb2); (try clear hk); (try clear hi)))
    go_ret
    exact ⟨by first | rfl | (simp [errW_none, errW_some] <;> rfl) | (simp [*, errW_none, errW_some] <;> rfl), by repeat (first | (with_reducible first | exact HB.out | apply below_alloc | apply pw_below_drewN | apply below_drew1) | exact HB.out)⟩

/-- THE ONE PURE STATEMENT of quipulaw11_CursorLays: yours. -/
def quipulaw11_CursorLays.Pure : Prop := ∀ (a0 : Int) (a1 : ByteArray), (Lit.int .i64 a0).wf = true → a1.size ≤ 140737488351232 → ∃ k, quipulaw11_CursorLays.f k a0 a1 = some true
theorem quipulaw11_CursorLays.walk (P : quipulaw11_CursorLays.Pure) (a0 : Int) (a1 : ByteArray) (w : World) (w0 : (Lit.int .i64 a0).wf = true) (w1 : a1.size ≤ 140737488351232) :
    Calls Try.prog 5 #[.int .i64 a0, .string a1] w fun e w' => e = .returned (.bool true) ∧ Below w.heap.size w w' := by
  obtain ⟨k, h⟩ := P a0 a1 w0 w1
  refine (quipulaw11_CursorLays.calls k a0 a1 true w h).mono ?_
  rintro e w' ⟨rfl, hd⟩
  exact ⟨rfl, hd⟩

/-! ### cursor_Cursor_Get8: function 24 (given) -/
def cursor_Cursor_Get8.f (s0_0 : ByteArray) (s0_1 : Int) (s0_2 : Int) : Option (Int × ByteArray × Int × Int) :=
  if 0 ≤ s0_1 ∧ s0_1 ≤ (s0_0.size : Int) ∧ (s0_0.size : Int) ≤ 9223372036854775807 then
    (if s0_2 = 0 then (if s0_1 + 1 ≤ (s0_0.size : Int) then some (beNum s0_0 s0_1 1, s0_0, s0_1 + 1, 0) else some (0, s0_0, s0_1, 110)) else some (0, s0_0, s0_1, s0_2))
  else none
set_option maxHeartbeats 1000000 in
theorem clo39_ok (g v : Nat) (s : ByteArray) (p e : Int) (w0 w : World) (hv : w.cell? ⟨v, 0, none⟩ = some (.pointer (some ⟨g, 0, none⟩))) (hI : IsS59 w0 w g s p e) (hp : 0 ≤ p) (hs : p + 1 ≤ s.size) (hm : (s.size : Int) ≤ 9223372036854775807) :
    Calls Try.prog 39 #[.pointer (some ⟨v, 0, none⟩)] w fun en w' => en = .returned (.int .i64 (beNum s p 1)) ∧ w.grownBy w' (some g) ∧ IsS59 w0 w' g s (p + 1) e := by
  go_enter Try.func39, Try.ntmps39
  go_wp2_with fail
  refine (number_ok g s p e 1 (by omega) w0 _ hI hp hs hm).mono ?_
  rintro en w1 ⟨rfl, hg1, hI1⟩
  have HG1 := Aside0.mk hg1
  have HI1 := Aside0.mk hI1
  clear hg1 hI1 hI
  go_wp2
  go_ret
  exact ⟨rfl, HG1.out, HI1.out⟩

set_option maxHeartbeats 1000000 in
theorem clo39_no (g v : Nat) (s : ByteArray) (p e : Int) (w0 w : World) (hv : w.cell? ⟨v, 0, none⟩ = some (.pointer (some ⟨g, 0, none⟩))) (hI : IsS59 w0 w g s p e) (hp : 0 ≤ p) (hs : (s.size : Int) < p + 1) (hps : p ≤ s.size) (hm : (s.size : Int) ≤ 9223372036854775807) :
    Calls Try.prog 39 #[.pointer (some ⟨v, 0, none⟩)] w fun en w' => en = gives 110 ∧ w.grownBy w' (some g) ∧ IsS59 w0 w' g s p e := by
  go_enter Try.func39, Try.ntmps39
  go_wp2_with fail
  refine (number_no g s p e 1 w0 _ hI hp hs hps hm).mono ?_
  rintro en w1 ⟨rfl, hg1, hI1⟩
  exact ⟨rfl, rfl, hg1, hI1⟩

set_option maxHeartbeats 2000000 in
theorem reads39_fault (g v : Nat) (s : ByteArray) (p e : Int) (w0 w : World) (hI : IsS59 w0 w g s p e) (he : e ≠ 0) :
    Calls Try.prog 38 #[.pointer (some ⟨g, 0, none⟩), .func (.func 39) #[] #[.pointer (some ⟨v, 0, none⟩)]] w fun en w' => en = .returned (.int .i64 0) ∧ w.grownBy w' (some g) ∧ IsS59 w0 w' g s p e := by
  have hmf : ∀ (fn : Fn) (first cap : Array Value) (w : World), (Instr.makeFunc fn first cap).run Try.prog w = .ok (.func fn first cap) w := fun _ _ _ _ => rfl
  have HI := Aside0.mk hI
  have hlt := IsS59.lt hI
  obtain ⟨HG, hg⟩ := hI
  have h1 := cellS59_1 HG
  have h2 := cellS59_2 HG
  clear HG hg
  have hb1 : (e == 0) = false := beq_eq_false_iff_ne.mpr he
  have hb2 : (e != 0) = true := bne_iff_ne.mpr he
  clear he
  go_enter_defers Try.func38, Try.ntmps38
  go_wp2
  refine leaves_cons (f := 46) (args := #[.pointer (some ⟨w.heap.size + 1, 0, none⟩), .pointer (some ⟨w.heap.size, 0, none⟩)]) (by simp) (by simp [go_sem]) ?_
  refine (idle46 _ _ _).mono ?_
  rintro en u' w'' ⟨rfl, rfl, rfl⟩
  refine ⟨_, results_tmp rfl _ _ _, rfl, gb_alloc (gb_alloc (gb_refl w _) _) _, IsS59.alloc (IsS59.alloc HI.out _) _⟩

set_option maxHeartbeats 2000000 in
theorem reads39_ok (g v : Nat) (s : ByteArray) (p : Int) (w0 w : World) (hv : w.cell? ⟨v, 0, none⟩ = some (.pointer (some ⟨g, 0, none⟩))) (hI : IsS59 w0 w g s p 0) (hp : 0 ≤ p) (hs : p + 1 ≤ s.size) (hm : (s.size : Int) ≤ 9223372036854775807) :
    Calls Try.prog 38 #[.pointer (some ⟨g, 0, none⟩), .func (.func 39) #[] #[.pointer (some ⟨v, 0, none⟩)]] w fun en w' => en = .returned (.int .i64 (beNum s p 1)) ∧ w.grownBy w' (some g) ∧ IsS59 w0 w' g s (p + 1) 0 := by
  have hmf : ∀ (fn : Fn) (first cap : Array Value) (w : World), (Instr.makeFunc fn first cap).run Try.prog w = .ok (.func fn first cap) w := fun _ _ _ _ => rfl
  have HI := Aside0.mk hI
  have hlt := IsS59.lt hI
  have hvb := World.block_lt_of_cell? w _ hv
  obtain ⟨HG, hg⟩ := hI
  have h1 := cellS59_1 HG
  have h2 := cellS59_2 HG
  clear HG hg
  have HV := Aside0.mk hv
  clear hv
  go_enter_defers Try.func38, Try.ntmps38
  go_wp2_with fail
  refine (clo39_ok g v s p 0 w0 _ ?_ (IsS59.alloc (IsS59.alloc HI.out _) _) hp hs hm).mono ?_
  · rw [World.cell?_alloc_past _ _ _ (by simp; omega), World.cell?_alloc_past _ _ _ hvb]; exact HV.out
  rintro en w1 ⟨rfl, hg1, hI1⟩
  have HG1 := Aside0.mk hg1
  have HI1 := Aside0.mk hI1
  clear hg1 hI1
  go_wp2
  refine leaves_cons (f := 46) (args := #[.pointer (some ⟨w.heap.size + 1, 0, none⟩), .pointer (some ⟨w.heap.size, 0, none⟩)]) (by simp) (by simp [go_sem]) ?_
  refine (idle46 _ _ _).mono ?_
  rintro en u' w'' ⟨rfl, rfl, rfl⟩
  exact ⟨_, results_tmp rfl _ _ _, rfl, gb_trans (gb_alloc (gb_alloc (gb_refl w _) _) _) HG1.out, HI1.out⟩

set_option maxHeartbeats 2000000 in
theorem reads39_no (g v : Nat) (s : ByteArray) (p : Int) (w0 w : World) (hv : w.cell? ⟨v, 0, none⟩ = some (.pointer (some ⟨g, 0, none⟩))) (hI : IsS59 w0 w g s p 0) (hp : 0 ≤ p) (hs : (s.size : Int) < p + 1) (hps : p ≤ s.size) (hm : (s.size : Int) ≤ 9223372036854775807) :
    Calls Try.prog 38 #[.pointer (some ⟨g, 0, none⟩), .func (.func 39) #[] #[.pointer (some ⟨v, 0, none⟩)]] w fun en w' => en = .returned (.int .i64 0) ∧ w.grownBy w' (some g) ∧ IsS59 w0 w' g s p 110 := by
  have hmf : ∀ (fn : Fn) (first cap : Array Value) (w : World), (Instr.makeFunc fn first cap).run Try.prog w = .ok (.func fn first cap) w := fun _ _ _ _ => rfl
  have HI := Aside0.mk hI
  have hlt := IsS59.lt hI
  have hvb := World.block_lt_of_cell? w _ hv
  obtain ⟨HG, hg⟩ := hI
  have h1 := cellS59_1 HG
  have h2 := cellS59_2 HG
  clear HG hg
  have HV := Aside0.mk hv
  clear hv
  go_enter_defers Try.func38, Try.ntmps38
  go_wp2_with fail
  refine (clo39_no g v s p 0 w0 _ ?_ (IsS59.alloc (IsS59.alloc HI.out _) _) hp hs hps hm).mono ?_
  · rw [World.cell?_alloc_past _ _ _ (by simp; omega), World.cell?_alloc_past _ _ _ hvb]; exact HV.out
  rintro en w1 ⟨rfl, hg1, hI1⟩
  have HG1 := Aside0.mk hg1
  have HI1 := Aside0.mk hI1
  clear hg1 hI1
  obtain ⟨HGG, hgg⟩ := HI1.out
  refine leaves_cons (f := 46) (args := #[.pointer (some ⟨w.heap.size + 1, 0, none⟩), .pointer (some ⟨w.heap.size, 0, none⟩)]) (by simp) (by simp [go_sem]) ?_
  refine (caught46 ⟨w.heap.size + 1, 0, none⟩ ⟨w.heap.size, 0, none⟩ g p 110 [] _ ?_ ?_ _ _ (cellS59_1 HGG) (cellS59_2 HGG) (blk_frozen HGG 1) (blk_frozen HGG 2)).mono ?_
  · refine HG1.out.cell ?_ (by simp; omega)
    simp [go_sem]
  · refine HG1.out.cell ?_ (by simp; omega)
    simp [go_sem]
  rintro en u' w'' ⟨rfl, rfl, rfl⟩
  simp [Leaves, settle, results, Try.results38, go_sem]
  exact ⟨gb_set (gb_set (gb_trans (gb_alloc (gb_alloc (gb_refl w _) _) _) HG1.out) _ _) _ _, IsS59.set_2 (IsS59.set_1 HI1.out _) _⟩

set_option maxHeartbeats 2000000 in
theorem cursor_Cursor_Get8.calls (g : Nat) (s : ByteArray) (p e : Int) (r1 : Int) (r2 : ByteArray) (r3 : Int) (r4 : Int) (w0 w : World) (hI : IsS59 w0 w g s p e) (hB : Below w0.heap.size w0 w) (h : cursor_Cursor_Get8.f s p e = some (r1, r2, r3, r4)) :
    Calls Try.prog 24 #[.pointer (some ⟨g, 0, none⟩)] w fun e w' => e = .returned (.int .i64 r1) ∧ IsS59 w0 w' g r2 r3 r4 ∧ Below w0.heap.size w0 w' ∧ KeepBut w w' g none := by
  have hmf : ∀ (fn : Fn) (first cap : Array Value) (w : World), (Instr.makeFunc fn first cap).run Try.prog w = .ok (.func fn first cap) w := fun _ _ _ _ => rfl
  have HI := Aside0.mk hI
  have HB := Aside0.mk hB
  have HH := Aside0.mk h
  have hge := hI.ge
  have fin : ∀ w', (w.alloc (.cells #[.pointer (some ⟨g, 0, none⟩)] 35)).grownBy w' (some g) → Below w0.heap.size w0 w' ∧ KeepBut w w' g none := fun w' hg => by
    have hg' := gb_trans (gb_alloc (gb_refl w (some g)) (.cells #[.pointer (some ⟨g, 0, none⟩)] 35)) hg
    exact ⟨HB.out.grown hg' HB.out.size (fun k hk => by injection hk with hk; omega), hg'.size, fun i hi hn _ => hg'.block i hi (by simpa using hn)⟩
  have FIN := Aside0.mk fin
  clear hI hB h hge fin
  go_enter Try.func24, Try.ntmps24
  go_wp2_with fail
  have H := HH.out
  clear HH
  simp only [cursor_Cursor_Get8.f] at H
  split at H
  · rename_i hc
    obtain ⟨hc1, hc2, hc3⟩ := hc
    split at H
    · rename_i he
      subst he
      split at H
      · rename_i ho
        simp only [Option.some.injEq, Prod.mk.injEq] at H
        obtain ⟨rfl, rfl, rfl, rfl⟩ := H
        refine (reads39_ok g w.heap.size s p w0 _ (by simp [go_sem]) (IsS59.alloc HI.out _) hc1 ho hc3).mono ?_
        rintro en w1 ⟨rfl, hg1, hI1⟩
        have R := Aside0.mk (And.intro hI1 (FIN.out _ hg1))
        clear hg1 hI1 FIN
        go_wp2
        go_ret
        exact ⟨rfl, R.out⟩
      · rename_i ho
        simp only [Option.some.injEq, Prod.mk.injEq] at H
        obtain ⟨rfl, rfl, rfl, rfl⟩ := H
        refine (reads39_no g w.heap.size s p w0 _ (by simp [go_sem]) (IsS59.alloc HI.out _) hc1 (by omega) hc2 hc3).mono ?_
        rintro en w1 ⟨rfl, hg1, hI1⟩
        have R := Aside0.mk (And.intro hI1 (FIN.out _ hg1))
        clear hg1 hI1 FIN
        go_wp2
        go_ret
        exact ⟨rfl, R.out⟩
    · rename_i he
      simp only [Option.some.injEq, Prod.mk.injEq] at H
      obtain ⟨rfl, rfl, rfl, rfl⟩ := H
      refine (reads39_fault g w.heap.size s p e w0 _ (IsS59.alloc HI.out _) he).mono ?_
      rintro en w1 ⟨rfl, hg1, hI1⟩
      have R := Aside0.mk (And.intro hI1 (FIN.out _ hg1))
      clear hg1 hI1 FIN he
      go_wp2
      go_ret
      exact ⟨rfl, R.out⟩
  · exact absurd H (by simp)


/-! ### cursor_Cursor_Get32: function 26 (given) -/
def cursor_Cursor_Get32.f (s0_0 : ByteArray) (s0_1 : Int) (s0_2 : Int) : Option (Int × ByteArray × Int × Int) :=
  if 0 ≤ s0_1 ∧ s0_1 ≤ (s0_0.size : Int) ∧ (s0_0.size : Int) ≤ 9223372036854775807 then
    (if s0_2 = 0 then (if s0_1 + 4 ≤ (s0_0.size : Int) then some (beNum s0_0 s0_1 4, s0_0, s0_1 + 4, 0) else some (0, s0_0, s0_1, 110)) else some (0, s0_0, s0_1, s0_2))
  else none
set_option maxHeartbeats 1000000 in
theorem clo42_ok (g v : Nat) (s : ByteArray) (p e : Int) (w0 w : World) (hv : w.cell? ⟨v, 0, none⟩ = some (.pointer (some ⟨g, 0, none⟩))) (hI : IsS59 w0 w g s p e) (hp : 0 ≤ p) (hs : p + 4 ≤ s.size) (hm : (s.size : Int) ≤ 9223372036854775807) :
    Calls Try.prog 42 #[.pointer (some ⟨v, 0, none⟩)] w fun en w' => en = .returned (.int .i64 (beNum s p 4)) ∧ w.grownBy w' (some g) ∧ IsS59 w0 w' g s (p + 4) e := by
  go_enter Try.func42, Try.ntmps42
  go_wp2_with fail
  refine (number_ok g s p e 4 (by omega) w0 _ hI hp hs hm).mono ?_
  rintro en w1 ⟨rfl, hg1, hI1⟩
  have HG1 := Aside0.mk hg1
  have HI1 := Aside0.mk hI1
  clear hg1 hI1 hI
  go_wp2
  go_ret
  exact ⟨rfl, HG1.out, HI1.out⟩

set_option maxHeartbeats 1000000 in
theorem clo42_no (g v : Nat) (s : ByteArray) (p e : Int) (w0 w : World) (hv : w.cell? ⟨v, 0, none⟩ = some (.pointer (some ⟨g, 0, none⟩))) (hI : IsS59 w0 w g s p e) (hp : 0 ≤ p) (hs : (s.size : Int) < p + 4) (hps : p ≤ s.size) (hm : (s.size : Int) ≤ 9223372036854775807) :
    Calls Try.prog 42 #[.pointer (some ⟨v, 0, none⟩)] w fun en w' => en = gives 110 ∧ w.grownBy w' (some g) ∧ IsS59 w0 w' g s p e := by
  go_enter Try.func42, Try.ntmps42
  go_wp2_with fail
  refine (number_no g s p e 4 w0 _ hI hp hs hps hm).mono ?_
  rintro en w1 ⟨rfl, hg1, hI1⟩
  exact ⟨rfl, rfl, hg1, hI1⟩

set_option maxHeartbeats 2000000 in
theorem reads42_fault (g v : Nat) (s : ByteArray) (p e : Int) (w0 w : World) (hI : IsS59 w0 w g s p e) (he : e ≠ 0) :
    Calls Try.prog 38 #[.pointer (some ⟨g, 0, none⟩), .func (.func 42) #[] #[.pointer (some ⟨v, 0, none⟩)]] w fun en w' => en = .returned (.int .i64 0) ∧ w.grownBy w' (some g) ∧ IsS59 w0 w' g s p e := by
  have hmf : ∀ (fn : Fn) (first cap : Array Value) (w : World), (Instr.makeFunc fn first cap).run Try.prog w = .ok (.func fn first cap) w := fun _ _ _ _ => rfl
  have HI := Aside0.mk hI
  have hlt := IsS59.lt hI
  obtain ⟨HG, hg⟩ := hI
  have h1 := cellS59_1 HG
  have h2 := cellS59_2 HG
  clear HG hg
  have hb1 : (e == 0) = false := beq_eq_false_iff_ne.mpr he
  have hb2 : (e != 0) = true := bne_iff_ne.mpr he
  clear he
  go_enter_defers Try.func38, Try.ntmps38
  go_wp2
  refine leaves_cons (f := 46) (args := #[.pointer (some ⟨w.heap.size + 1, 0, none⟩), .pointer (some ⟨w.heap.size, 0, none⟩)]) (by simp) (by simp [go_sem]) ?_
  refine (idle46 _ _ _).mono ?_
  rintro en u' w'' ⟨rfl, rfl, rfl⟩
  refine ⟨_, results_tmp rfl _ _ _, rfl, gb_alloc (gb_alloc (gb_refl w _) _) _, IsS59.alloc (IsS59.alloc HI.out _) _⟩

set_option maxHeartbeats 2000000 in
theorem reads42_ok (g v : Nat) (s : ByteArray) (p : Int) (w0 w : World) (hv : w.cell? ⟨v, 0, none⟩ = some (.pointer (some ⟨g, 0, none⟩))) (hI : IsS59 w0 w g s p 0) (hp : 0 ≤ p) (hs : p + 4 ≤ s.size) (hm : (s.size : Int) ≤ 9223372036854775807) :
    Calls Try.prog 38 #[.pointer (some ⟨g, 0, none⟩), .func (.func 42) #[] #[.pointer (some ⟨v, 0, none⟩)]] w fun en w' => en = .returned (.int .i64 (beNum s p 4)) ∧ w.grownBy w' (some g) ∧ IsS59 w0 w' g s (p + 4) 0 := by
  have hmf : ∀ (fn : Fn) (first cap : Array Value) (w : World), (Instr.makeFunc fn first cap).run Try.prog w = .ok (.func fn first cap) w := fun _ _ _ _ => rfl
  have HI := Aside0.mk hI
  have hlt := IsS59.lt hI
  have hvb := World.block_lt_of_cell? w _ hv
  obtain ⟨HG, hg⟩ := hI
  have h1 := cellS59_1 HG
  have h2 := cellS59_2 HG
  clear HG hg
  have HV := Aside0.mk hv
  clear hv
  go_enter_defers Try.func38, Try.ntmps38
  go_wp2_with fail
  refine (clo42_ok g v s p 0 w0 _ ?_ (IsS59.alloc (IsS59.alloc HI.out _) _) hp hs hm).mono ?_
  · rw [World.cell?_alloc_past _ _ _ (by simp; omega), World.cell?_alloc_past _ _ _ hvb]; exact HV.out
  rintro en w1 ⟨rfl, hg1, hI1⟩
  have HG1 := Aside0.mk hg1
  have HI1 := Aside0.mk hI1
  clear hg1 hI1
  go_wp2
  refine leaves_cons (f := 46) (args := #[.pointer (some ⟨w.heap.size + 1, 0, none⟩), .pointer (some ⟨w.heap.size, 0, none⟩)]) (by simp) (by simp [go_sem]) ?_
  refine (idle46 _ _ _).mono ?_
  rintro en u' w'' ⟨rfl, rfl, rfl⟩
  exact ⟨_, results_tmp rfl _ _ _, rfl, gb_trans (gb_alloc (gb_alloc (gb_refl w _) _) _) HG1.out, HI1.out⟩

set_option maxHeartbeats 2000000 in
theorem reads42_no (g v : Nat) (s : ByteArray) (p : Int) (w0 w : World) (hv : w.cell? ⟨v, 0, none⟩ = some (.pointer (some ⟨g, 0, none⟩))) (hI : IsS59 w0 w g s p 0) (hp : 0 ≤ p) (hs : (s.size : Int) < p + 4) (hps : p ≤ s.size) (hm : (s.size : Int) ≤ 9223372036854775807) :
    Calls Try.prog 38 #[.pointer (some ⟨g, 0, none⟩), .func (.func 42) #[] #[.pointer (some ⟨v, 0, none⟩)]] w fun en w' => en = .returned (.int .i64 0) ∧ w.grownBy w' (some g) ∧ IsS59 w0 w' g s p 110 := by
  have hmf : ∀ (fn : Fn) (first cap : Array Value) (w : World), (Instr.makeFunc fn first cap).run Try.prog w = .ok (.func fn first cap) w := fun _ _ _ _ => rfl
  have HI := Aside0.mk hI
  have hlt := IsS59.lt hI
  have hvb := World.block_lt_of_cell? w _ hv
  obtain ⟨HG, hg⟩ := hI
  have h1 := cellS59_1 HG
  have h2 := cellS59_2 HG
  clear HG hg
  have HV := Aside0.mk hv
  clear hv
  go_enter_defers Try.func38, Try.ntmps38
  go_wp2_with fail
  refine (clo42_no g v s p 0 w0 _ ?_ (IsS59.alloc (IsS59.alloc HI.out _) _) hp hs hps hm).mono ?_
  · rw [World.cell?_alloc_past _ _ _ (by simp; omega), World.cell?_alloc_past _ _ _ hvb]; exact HV.out
  rintro en w1 ⟨rfl, hg1, hI1⟩
  have HG1 := Aside0.mk hg1
  have HI1 := Aside0.mk hI1
  clear hg1 hI1
  obtain ⟨HGG, hgg⟩ := HI1.out
  refine leaves_cons (f := 46) (args := #[.pointer (some ⟨w.heap.size + 1, 0, none⟩), .pointer (some ⟨w.heap.size, 0, none⟩)]) (by simp) (by simp [go_sem]) ?_
  refine (caught46 ⟨w.heap.size + 1, 0, none⟩ ⟨w.heap.size, 0, none⟩ g p 110 [] _ ?_ ?_ _ _ (cellS59_1 HGG) (cellS59_2 HGG) (blk_frozen HGG 1) (blk_frozen HGG 2)).mono ?_
  · refine HG1.out.cell ?_ (by simp; omega)
    simp [go_sem]
  · refine HG1.out.cell ?_ (by simp; omega)
    simp [go_sem]
  rintro en u' w'' ⟨rfl, rfl, rfl⟩
  simp [Leaves, settle, results, Try.results38, go_sem]
  exact ⟨gb_set (gb_set (gb_trans (gb_alloc (gb_alloc (gb_refl w _) _) _) HG1.out) _ _) _ _, IsS59.set_2 (IsS59.set_1 HI1.out _) _⟩

set_option maxHeartbeats 2000000 in
theorem cursor_Cursor_Get32.calls (g : Nat) (s : ByteArray) (p e : Int) (r1 : Int) (r2 : ByteArray) (r3 : Int) (r4 : Int) (w0 w : World) (hI : IsS59 w0 w g s p e) (hB : Below w0.heap.size w0 w) (h : cursor_Cursor_Get32.f s p e = some (r1, r2, r3, r4)) :
    Calls Try.prog 26 #[.pointer (some ⟨g, 0, none⟩)] w fun e w' => e = .returned (.int .i64 r1) ∧ IsS59 w0 w' g r2 r3 r4 ∧ Below w0.heap.size w0 w' ∧ KeepBut w w' g none := by
  have hmf : ∀ (fn : Fn) (first cap : Array Value) (w : World), (Instr.makeFunc fn first cap).run Try.prog w = .ok (.func fn first cap) w := fun _ _ _ _ => rfl
  have HI := Aside0.mk hI
  have HB := Aside0.mk hB
  have HH := Aside0.mk h
  have hge := hI.ge
  have fin : ∀ w', (w.alloc (.cells #[.pointer (some ⟨g, 0, none⟩)] 35)).grownBy w' (some g) → Below w0.heap.size w0 w' ∧ KeepBut w w' g none := fun w' hg => by
    have hg' := gb_trans (gb_alloc (gb_refl w (some g)) (.cells #[.pointer (some ⟨g, 0, none⟩)] 35)) hg
    exact ⟨HB.out.grown hg' HB.out.size (fun k hk => by injection hk with hk; omega), hg'.size, fun i hi hn _ => hg'.block i hi (by simpa using hn)⟩
  have FIN := Aside0.mk fin
  clear hI hB h hge fin
  go_enter Try.func26, Try.ntmps26
  go_wp2_with fail
  have H := HH.out
  clear HH
  simp only [cursor_Cursor_Get32.f] at H
  split at H
  · rename_i hc
    obtain ⟨hc1, hc2, hc3⟩ := hc
    split at H
    · rename_i he
      subst he
      split at H
      · rename_i ho
        simp only [Option.some.injEq, Prod.mk.injEq] at H
        obtain ⟨rfl, rfl, rfl, rfl⟩ := H
        refine (reads42_ok g w.heap.size s p w0 _ (by simp [go_sem]) (IsS59.alloc HI.out _) hc1 ho hc3).mono ?_
        rintro en w1 ⟨rfl, hg1, hI1⟩
        have R := Aside0.mk (And.intro hI1 (FIN.out _ hg1))
        clear hg1 hI1 FIN
        go_wp2
        go_ret
        exact ⟨rfl, R.out⟩
      · rename_i ho
        simp only [Option.some.injEq, Prod.mk.injEq] at H
        obtain ⟨rfl, rfl, rfl, rfl⟩ := H
        refine (reads42_no g w.heap.size s p w0 _ (by simp [go_sem]) (IsS59.alloc HI.out _) hc1 (by omega) hc2 hc3).mono ?_
        rintro en w1 ⟨rfl, hg1, hI1⟩
        have R := Aside0.mk (And.intro hI1 (FIN.out _ hg1))
        clear hg1 hI1 FIN
        go_wp2
        go_ret
        exact ⟨rfl, R.out⟩
    · rename_i he
      simp only [Option.some.injEq, Prod.mk.injEq] at H
      obtain ⟨rfl, rfl, rfl, rfl⟩ := H
      refine (reads42_fault g w.heap.size s p e w0 _ (IsS59.alloc HI.out _) he).mono ?_
      rintro en w1 ⟨rfl, hg1, hI1⟩
      have R := Aside0.mk (And.intro hI1 (FIN.out _ hg1))
      clear hg1 hI1 FIN he
      go_wp2
      go_ret
      exact ⟨rfl, R.out⟩
  · exact absurd H (by simp)


/-! ### cursor_Cursor_Text: function 27 (given) -/
def cursor_Cursor_Text.f (k : Nat) (s0_0 : ByteArray) (s0_1 : Int) (s0_2 : Int) (a1 : Int) : Option (ByteArray × ByteArray × Int × Int) :=
  if 0 ≤ s0_1 ∧ s0_1 ≤ (s0_0.size : Int) ∧ (s0_0.size : Int) ≤ 9223372036854775807 then
    (if s0_2 = 0 then
      (if s0_1 + 2 ≤ (s0_0.size : Int) then
        (if beNum s0_0 s0_1 2 > a1 then some (ByteArray.empty, s0_0, s0_1, 112)
         else if s0_1 + 2 + beNum s0_0 s0_1 2 ≤ (s0_0.size : Int) then
           (cursor_Valid.f k (s0_0.extract (s0_1 + 2).toNat (s0_1 + 2 + beNum s0_0 s0_1 2).toNat)).bind fun b => if b = true then some (s0_0.extract (s0_1 + 2).toNat (s0_1 + 2 + beNum s0_0 s0_1 2).toNat, s0_0, s0_1 + 2 + beNum s0_0 s0_1 2, 0) else some (ByteArray.empty, s0_0, s0_1, 111)
         else some (ByteArray.empty, s0_0, s0_1, 110))
       else some (ByteArray.empty, s0_0, s0_1, 110))
     else some (ByteArray.empty, s0_0, s0_1, s0_2))
  else none
set_option maxHeartbeats 2000000 in
theorem clo44_short (g v1 v2 : Nat) (s : ByteArray) (p m : Int) (w0 w : World) (hv1 : w.cell? ⟨v1, 0, none⟩ = some (.pointer (some ⟨g, 0, none⟩))) (hI : IsS59 w0 w g s p 0) (hp : 0 ≤ p) (hs : (s.size : Int) < p + 2) (hps : p ≤ s.size) (hm : (s.size : Int) ≤ 9223372036854775807) :
    Calls Try.prog 44 #[.pointer (some ⟨v1, 0, none⟩), .pointer (some ⟨v2, 0, none⟩)] w fun en w' => en = gives 110 ∧ w.grownBy w' (some g) ∧ ∃ q, IsS59 w0 w' g s q 0 := by
  go_enter Try.func44, Try.ntmps44
  go_wp2_with fail
  refine (number_no g s p 0 2 w0 _ hI hp hs hps hm).mono ?_
  rintro en w1 ⟨rfl, hg1, hI1⟩
  exact ⟨rfl, rfl, hg1, _, hI1⟩

set_option maxHeartbeats 2000000 in
theorem clo44_long (g v1 v2 : Nat) (s : ByteArray) (p m : Int) (w0 w : World) (hv1 : w.cell? ⟨v1, 0, none⟩ = some (.pointer (some ⟨g, 0, none⟩))) (hv2 : w.cell? ⟨v2, 0, none⟩ = some (.int .i64 m)) (hne : v2 ≠ g) (hI : IsS59 w0 w g s p 0) (hp : 0 ≤ p) (hs : p + 2 ≤ s.size) (hm : (s.size : Int) ≤ 9223372036854775807) (hl : m < beNum s p 2) :
    Calls Try.prog 44 #[.pointer (some ⟨v1, 0, none⟩), .pointer (some ⟨v2, 0, none⟩)] w fun en w' => en = gives 112 ∧ w.grownBy w' (some g) ∧ ∃ q, IsS59 w0 w' g s q 0 := by
  have HV2 := Aside0.mk hv2
  clear hv2
  have hl2 : decide (m < beNum s p 2) = true := decide_eq_true hl
  clear hl
  go_enter Try.func44, Try.ntmps44
  go_wp2_with fail
  refine (number_ok g s p 0 2 (by omega) w0 _ hI hp hs hm).mono ?_
  rintro en w1 ⟨rfl, hg1, hI1⟩
  have hc := hg1.cell HV2.out (by simpa using hne)
  have HG1 := Aside0.mk hg1
  have HI1 := Aside0.mk hI1
  clear hg1 hI1 hI
  go_wp2
  exact ⟨rfl, rfl, HG1.out, _, HI1.out⟩

set_option maxHeartbeats 2000000 in
theorem clo44_end (g v1 v2 : Nat) (s : ByteArray) (p m : Int) (w0 w : World) (hv1 : w.cell? ⟨v1, 0, none⟩ = some (.pointer (some ⟨g, 0, none⟩))) (hv2 : w.cell? ⟨v2, 0, none⟩ = some (.int .i64 m)) (hne1 : v1 ≠ g) (hne : v2 ≠ g) (hI : IsS59 w0 w g s p 0) (hp : 0 ≤ p) (hs : p + 2 ≤ s.size) (hm : (s.size : Int) ≤ 9223372036854775807) (hl : beNum s p 2 ≤ m) (ho : (s.size : Int) < p + 2 + beNum s p 2) :
    Calls Try.prog 44 #[.pointer (some ⟨v1, 0, none⟩), .pointer (some ⟨v2, 0, none⟩)] w fun en w' => en = gives 110 ∧ w.grownBy w' (some g) ∧ ∃ q, IsS59 w0 w' g s q 0 := by
  have hr := beNum_range s p 2
  have HV2 := Aside0.mk hv2
  have HV1 := Aside0.mk hv1
  clear hv2
  have hl2 : decide (m < beNum s p 2) = false := decide_eq_false (by omega)
  clear hl
  have HR := Aside0.mk hr
  have HO := Aside0.mk ho
  clear hr ho
  go_enter Try.func44, Try.ntmps44
  go_wp2_with fail
  refine (number_ok g s p 0 2 (by omega) w0 _ hI hp hs hm).mono ?_
  rintro en w1 ⟨rfl, hg1, hI1⟩
  have hc := hg1.cell HV2.out (by simpa using hne)
  have hc1 := hg1.cell HV1.out (by simpa using hne1)
  have HG1 := Aside0.mk hg1
  have HI1 := Aside0.mk hI1
  clear hg1 hI1 hI hv1
  go_wp2_with fail
  refine (take_no g s (p + 2) 0 (beNum s p 2) w0 _ HI1.out (by omega) HR.out.1 HO.out (by omega) hm).mono ?_
  rintro en w2 ⟨rfl, hg2, hI2⟩
  exact ⟨rfl, rfl, gb_trans HG1.out hg2, _, hI2⟩

set_option maxHeartbeats 2000000 in
theorem clo44_read (k : Nat) (b : Bool) (g v1 v2 : Nat) (s : ByteArray) (p m : Int) (w0 w : World) (hv1 : w.cell? ⟨v1, 0, none⟩ = some (.pointer (some ⟨g, 0, none⟩))) (hv2 : w.cell? ⟨v2, 0, none⟩ = some (.int .i64 m)) (hne1 : v1 ≠ g) (hne : v2 ≠ g) (hI : IsS59 w0 w g s p 0) (hp : 0 ≤ p) (hs : p + 2 ≤ s.size) (hm : (s.size : Int) ≤ 9223372036854775807) (hl : beNum s p 2 ≤ m) (ho : p + 2 + beNum s p 2 ≤ s.size)
    (hb : cursor_Valid.f k (s.extract (p + 2).toNat (p + 2 + beNum s p 2).toNat) = some b) :
    Calls Try.prog 44 #[.pointer (some ⟨v1, 0, none⟩), .pointer (some ⟨v2, 0, none⟩)] w fun en w' => en = (if b = true then .returned (.string (s.extract (p + 2).toNat (p + 2 + beNum s p 2).toNat)) else gives 111) ∧ w.grownBy w' (some g) ∧ IsS59 w0 w' g s (p + 2 + beNum s p 2) 0 := by
  have hr := beNum_range s p 2
  have HV2 := Aside0.mk hv2
  have HV1 := Aside0.mk hv1
  clear hv2
  have hl2 : decide (m < beNum s p 2) = false := decide_eq_false (by omega)
  clear hl
  have HR := Aside0.mk hr
  have HO := Aside0.mk ho
  have HBB := Aside0.mk hb
  clear hr ho hb
  go_enter Try.func44, Try.ntmps44
  go_wp2_with fail
  refine (number_ok g s p 0 2 (by omega) w0 _ hI hp hs hm).mono ?_
  rintro en w1 ⟨rfl, hg1, hI1⟩
  have hc := hg1.cell HV2.out (by simpa using hne)
  have hc1 := hg1.cell HV1.out (by simpa using hne1)
  have HG1 := Aside0.mk hg1
  have HI1 := Aside0.mk hI1
  clear hg1 hI1 hI hv1
  go_wp2_with fail
  refine (take_ok g s (p + 2) 0 (beNum s p 2) w0 _ HI1.out (by omega) HR.out.1 HO.out hm).mono ?_
  rintro en w2 ⟨rfl, hg2, hI2⟩
  have HG2 := Aside0.mk (gb_trans HG1.out hg2)
  have HI2 := Aside0.mk hI2
  clear hg2 hI2 HG1 HI1
  go_wp2_with fail
  refine (cursor_Valid.calls k _ b _ HBB.out).mono ?_
  rintro en w3 ⟨rfl, ⟨nd, rfl⟩⟩
  cases b with
  | true =>
    go_wp2
    go_ret
    exact ⟨rfl, gb_drewN HG2.out _, IsS59.drewN HI2.out _⟩
  | false =>
    go_wp2
    exact ⟨rfl, rfl, gb_drewN HG2.out _, IsS59.drewN HI2.out _⟩

theorem caught47 (a b : Addr) (g : Nat) (p0 c : Int) (older : List PanicEntry) (w : World) (ha : w.cell? a = some (.int .i64 p0)) (hb : w.cell? b = some (.pointer (some ⟨g, 0, none⟩)))
    (x1 x2 : Value) (h1 : w.cell? ⟨g, 1, none⟩ = some x1) (h2 : w.cell? ⟨g, 2, none⟩ = some x2) (f1 : w.frozen? ⟨g, 1, none⟩ = false) (f2 : w.frozen? ⟨g, 2, none⟩ = false) :
    CallsD Try.prog 47 #[.pointer (some a), .pointer (some b)] (.panicking ({ v := .iface 28 (.int .i64 c), recovered := false } :: older)) w fun e u' w' =>
      e = .returned (.tuple #[]) ∧ u' = .panicking ({ v := .iface 28 (.int .i64 c), recovered := true } :: older) ∧ w' = (w.setCell ⟨g, 1, none⟩ (.int .i64 p0)).setCell ⟨g, 2, none⟩ (.int .i64 c) := by
  have hta : ∀ (v : Value) (W : World), (Instr.typeAssert (.iface 28 v) 20 28 true).run Try.prog W = .ok (.tuple #[v, .bool true]) W := fun v W => by rfl
  refine callsD_of_wpS Try.func47 rfl fun c₀ cs hu => ?_
  apply wpS_seq
  apply wpS_region
  simp [wpOpsS, go_sem, recoverD, hu, Try.ntmps47, Exit.thenS, hta]
  apply wpS_seq
  apply wpS_region
  simp [wpOpsS, go_sem, recoverD, hu, Try.ntmps47, Exit.thenS, hta]
  refine wpS_cond (t := true) (by simp [Act.eval, Array.replicate]) ?_
  simp only [if_true]
  refine wpS_of_wp ?_
  go_wp2
  cases c₀
  simp_all [bodyPostS, results, Try.results47]

theorem idle47 (a b : Addr) (w : World) :
    CallsD Try.prog 47 #[.pointer (some a), .pointer (some b)] .returning w fun e u' w' => e = .returned (.tuple #[]) ∧ u' = .returning ∧ w' = w := by
  have hta : ∀ (W : World), (Instr.typeAssert .nilIface 20 28 true).run Try.prog W = .ok (.tuple #[.int .i64 0, .bool false]) W := fun W => by rfl
  refine callsD_of_wpS Try.func47 rfl fun c₀ cs hu => ?_
  apply wpS_seq
  apply wpS_region
  simp [wpOpsS, go_sem, recoverD, hu, Try.ntmps47, Exit.thenS, hta]
  apply wpS_seq
  apply wpS_region
  simp [wpOpsS, go_sem, recoverD, hu, Try.ntmps47, Exit.thenS, hta]
  refine wpS_cond (t := false) (by simp [Act.eval, Array.replicate]) ?_
  simp only [Bool.false_eq_true, if_false]
  refine wpS_of_wp (wp_skip ?_)
  cases c₀
  simp_all [bodyPostS, results, Try.results47]

set_option maxHeartbeats 2000000 in
theorem reads43_fault (g v1 v2 : Nat) (s : ByteArray) (p e : Int) (w0 w : World) (hI : IsS59 w0 w g s p e) (he : e ≠ 0) :
    Calls Try.prog 43 #[.pointer (some ⟨g, 0, none⟩), .func (.func 44) #[] #[.pointer (some ⟨v1, 0, none⟩), .pointer (some ⟨v2, 0, none⟩)]] w fun en w' => en = .returned (.string ByteArray.empty) ∧ w.grownBy w' (some g) ∧ IsS59 w0 w' g s p e := by
  have hmf : ∀ (fn : Fn) (first cap : Array Value) (w : World), (Instr.makeFunc fn first cap).run Try.prog w = .ok (.func fn first cap) w := fun _ _ _ _ => rfl
  have HI := Aside0.mk hI
  have hlt := IsS59.lt hI
  obtain ⟨HG, hg⟩ := hI
  have h1 := cellS59_1 HG
  have h2 := cellS59_2 HG
  clear HG hg
  have hb1 : (e == 0) = false := beq_eq_false_iff_ne.mpr he
  have hb2 : (e != 0) = true := bne_iff_ne.mpr he
  clear he
  go_enter_defers Try.func43, Try.ntmps43
  go_wp2
  refine leaves_cons (f := 47) (args := #[.pointer (some ⟨w.heap.size + 1, 0, none⟩), .pointer (some ⟨w.heap.size, 0, none⟩)]) (by simp) (by simp [go_sem]) ?_
  refine (idle47 _ _ _).mono ?_
  rintro en u' w'' ⟨rfl, rfl, rfl⟩
  refine ⟨_, results_tmp rfl _ _ _, rfl, gb_alloc (gb_alloc (gb_refl w _) _) _, IsS59.alloc (IsS59.alloc HI.out _) _⟩

set_option maxHeartbeats 2000000 in
theorem reads43_ok (g v1 v2 : Nat) (s t : ByteArray) (p q : Int) (w0 w : World) (hI : IsS59 w0 w g s p 0)
    (hclo : Calls Try.prog 44 #[.pointer (some ⟨v1, 0, none⟩), .pointer (some ⟨v2, 0, none⟩)] ((w.alloc (.cells #[.pointer (some ⟨g, 0, none⟩)] 35)).alloc (.cells #[.int .i64 p] 3)) fun en w' => en = .returned (.string t) ∧ ((w.alloc (.cells #[.pointer (some ⟨g, 0, none⟩)] 35)).alloc (.cells #[.int .i64 p] 3)).grownBy w' (some g) ∧ IsS59 w0 w' g s q 0) :
    Calls Try.prog 43 #[.pointer (some ⟨g, 0, none⟩), .func (.func 44) #[] #[.pointer (some ⟨v1, 0, none⟩), .pointer (some ⟨v2, 0, none⟩)]] w fun en w' => en = .returned (.string t) ∧ w.grownBy w' (some g) ∧ IsS59 w0 w' g s q 0 := by
  have hmf : ∀ (fn : Fn) (first cap : Array Value) (w : World), (Instr.makeFunc fn first cap).run Try.prog w = .ok (.func fn first cap) w := fun _ _ _ _ => rfl
  have HCL := Aside0.mk hclo
  clear hclo
  have HI := Aside0.mk hI
  have hlt := IsS59.lt hI
  obtain ⟨HG, hg⟩ := hI
  have h1 := cellS59_1 HG
  have h2 := cellS59_2 HG
  clear HG hg
  go_enter_defers Try.func43, Try.ntmps43
  go_wp2_with fail
  refine HCL.out.mono ?_
  rintro en w1 ⟨rfl, hg1, hI1⟩
  have HG1 := Aside0.mk hg1
  have HI1 := Aside0.mk hI1
  clear hg1 hI1
  go_wp2
  refine leaves_cons (f := 47) (args := #[.pointer (some ⟨w.heap.size + 1, 0, none⟩), .pointer (some ⟨w.heap.size, 0, none⟩)]) (by simp) (by simp [go_sem]) ?_
  refine (idle47 _ _ _).mono ?_
  rintro en u' w'' ⟨rfl, rfl, rfl⟩
  exact ⟨_, results_tmp rfl _ _ _, rfl, gb_trans (gb_alloc (gb_alloc (gb_refl w _) _) _) HG1.out, HI1.out⟩

set_option maxHeartbeats 2000000 in
theorem reads43_no (g v1 v2 : Nat) (s : ByteArray) (p c : Int) (w0 w : World) (hI : IsS59 w0 w g s p 0)
    (hclo : Calls Try.prog 44 #[.pointer (some ⟨v1, 0, none⟩), .pointer (some ⟨v2, 0, none⟩)] ((w.alloc (.cells #[.pointer (some ⟨g, 0, none⟩)] 35)).alloc (.cells #[.int .i64 p] 3)) fun en w' => en = gives c ∧ ((w.alloc (.cells #[.pointer (some ⟨g, 0, none⟩)] 35)).alloc (.cells #[.int .i64 p] 3)).grownBy w' (some g) ∧ ∃ q, IsS59 w0 w' g s q 0) :
    Calls Try.prog 43 #[.pointer (some ⟨g, 0, none⟩), .func (.func 44) #[] #[.pointer (some ⟨v1, 0, none⟩), .pointer (some ⟨v2, 0, none⟩)]] w fun en w' => en = .returned (.string ByteArray.empty) ∧ w.grownBy w' (some g) ∧ IsS59 w0 w' g s p c := by
  have hmf : ∀ (fn : Fn) (first cap : Array Value) (w : World), (Instr.makeFunc fn first cap).run Try.prog w = .ok (.func fn first cap) w := fun _ _ _ _ => rfl
  have HCL := Aside0.mk hclo
  clear hclo
  have HI := Aside0.mk hI
  have hlt := IsS59.lt hI
  obtain ⟨HG, hg⟩ := hI
  have h1 := cellS59_1 HG
  have h2 := cellS59_2 HG
  clear HG hg
  go_enter_defers Try.func43, Try.ntmps43
  go_wp2_with fail
  refine HCL.out.mono ?_
  rintro en w1 ⟨rfl, hg1, q, hI1⟩
  have HG1 := Aside0.mk hg1
  have HI1 := Aside0.mk hI1
  clear hg1 hI1
  obtain ⟨HGG, hgg⟩ := HI1.out
  refine leaves_cons (f := 47) (args := #[.pointer (some ⟨w.heap.size + 1, 0, none⟩), .pointer (some ⟨w.heap.size, 0, none⟩)]) (by simp) (by simp [go_sem]) ?_
  refine (caught47 ⟨w.heap.size + 1, 0, none⟩ ⟨w.heap.size, 0, none⟩ g p c [] _ ?_ ?_ _ _ (cellS59_1 HGG) (cellS59_2 HGG) (blk_frozen HGG 1) (blk_frozen HGG 2)).mono ?_
  · refine HG1.out.cell ?_ (by simp; omega)
    simp [go_sem]
  · refine HG1.out.cell ?_ (by simp; omega)
    simp [go_sem]
  rintro en u' w'' ⟨rfl, rfl, rfl⟩
  simp [Leaves, settle, results, Try.results43, go_sem]
  exact ⟨rfl, gb_set (gb_set (gb_trans (gb_alloc (gb_alloc (gb_refl w _) _) _) HG1.out) _ _) _ _, IsS59.set_2 (IsS59.set_1 HI1.out _) _⟩

theorem cursor_Cursor_Text.mono : ∀ a0 a1 a2 a3 k, LeO (cursor_Cursor_Text.f k a0 a1 a2 a3) (cursor_Cursor_Text.f (k + 1) a0 a1 a2 a3) := by
  intro a0 a1 a2 a3 k
  unfold cursor_Cursor_Text.f
  repeat' first
    | (with_reducible exact cursor_Valid.mono _ _)
    | (with_reducible exact LeO.refl _)
    | (with_reducible exact LeO.none _)
    | (with_reducible refine LeO.ite ?_ ?_)
    | (with_reducible refine LeO.bind ?_ (fun _ => ?_))

set_option maxHeartbeats 4000000 in
theorem cursor_Cursor_Text.calls (k : Nat) (g : Nat) (s0_0 : ByteArray) (s0_1 : Int) (s0_2 : Int) (a1 : Int) (r1 : ByteArray) (r2 : ByteArray) (r3 : Int) (r4 : Int) (w0 w : World) (hI : IsS59 w0 w g s0_0 s0_1 s0_2) (hB : Below w0.heap.size w0 w) (h : cursor_Cursor_Text.f k s0_0 s0_1 s0_2 a1 = some (r1, r2, r3, r4)) :
    Calls Try.prog 27 #[.pointer (some ⟨g, 0, none⟩), .int .i64 a1] w fun e w' => e = .returned (.string r1) ∧ IsS59 w0 w' g r2 r3 r4 ∧ Below w0.heap.size w0 w' ∧ KeepBut w w' g none := by
  have hmf : ∀ (fn : Fn) (first cap : Array Value) (w : World), (Instr.makeFunc fn first cap).run Try.prog w = .ok (.func fn first cap) w := fun _ _ _ _ => rfl
  have HI := Aside0.mk hI
  have HB := Aside0.mk hB
  have HH := Aside0.mk h
  have hge := hI.ge
  have hlt := hI.lt
  have fin : ∀ w', ((w.alloc (.cells #[.pointer (some ⟨g, 0, none⟩)] 35)).alloc (.cells #[.int .i64 a1] 3)).grownBy w' (some g) → Below w0.heap.size w0 w' ∧ KeepBut w w' g none := fun w' hg => by
    have hg' := gb_trans (gb_alloc (gb_alloc (gb_refl w (some g)) (.cells #[.pointer (some ⟨g, 0, none⟩)] 35)) (.cells #[.int .i64 a1] 3)) hg
    exact ⟨HB.out.grown hg' HB.out.size (fun k hk => by injection hk with hk; omega), hg'.size, fun i hi hn _ => hg'.block i hi (by simpa using hn)⟩
  have FIN := Aside0.mk fin
  clear hI hB h hge fin
  go_enter Try.func27, Try.ntmps27
  go_wp2_with fail
  have HI2 := Aside0.mk (IsS59.alloc (IsS59.alloc HI.out (.cells #[.pointer (some ⟨g, 0, none⟩)] 35)) (.cells #[.int .i64 a1] 3))
  have HI4 := Aside0.mk (IsS59.alloc (IsS59.alloc HI2.out (.cells #[.pointer (some ⟨g, 0, none⟩)] 35)) (.cells #[.int .i64 s0_1] 3))
  have H := HH.out
  clear HH
  simp only [cursor_Cursor_Text.f] at H
  have wind : ∀ (en : Ending) (w1 : World) (t : ByteArray) (q e : Int), en = .returned (.string t) ∧ ((w.alloc (.cells #[.pointer (some ⟨g, 0, none⟩)] 35)).alloc (.cells #[.int .i64 a1] 3)).grownBy w1 (some g) ∧ IsS59 w0 w1 g s0_0 q e →
      en = .returned (.string t) ∧ Aside0 (IsS59 w0 w1 g s0_0 q e ∧ Below w0.heap.size w0 w1 ∧ KeepBut w w1 g none) := fun en w1 t q e h => ⟨h.1, ⟨h.2.2, FIN.out _ h.2.1⟩⟩
  have WIND := Aside0.mk wind
  clear wind
  split at H
  · rename_i hc
    obtain ⟨hc1, hc2, hc3⟩ := hc
    have hx1 : ∀ o o', (((w.alloc (.cells #[.pointer (some ⟨g, 0, none⟩)] 35)).alloc (.cells #[.int .i64 a1] 3)).alloc o |>.alloc o').cell? ⟨w.heap.size, 0, none⟩ = some (.pointer (some ⟨g, 0, none⟩)) := fun o o' => by
      rw [World.cell?_alloc_past _ _ _ (by simp; omega), World.cell?_alloc_past _ _ _ (by first | (simp; done) | (simp; omega)), World.cell?_alloc_past _ _ _ (by first | (simp; done) | (simp; omega))]; simp [go_sem]
    have hx2 : ∀ o o', (((w.alloc (.cells #[.pointer (some ⟨g, 0, none⟩)] 35)).alloc (.cells #[.int .i64 a1] 3)).alloc o |>.alloc o').cell? ⟨w.heap.size + 1, 0, none⟩ = some (.int .i64 a1) := fun o o' => by
      rw [World.cell?_alloc_past _ _ _ (by first | (simp; done) | (simp; omega)), World.cell?_alloc_past _ _ _ (by first | (simp; done) | (simp; omega))]; simp [go_sem]
    have HX1 := Aside0.mk hx1
    have HX2 := Aside0.mk hx2
    clear hx1 hx2
    split at H
    · rename_i he
      subst he
      split at H
      · rename_i ho
        split at H
        · rename_i hl
          simp only [Option.some.injEq, Prod.mk.injEq] at H
          obtain ⟨rfl, rfl, rfl, rfl⟩ := H
          refine (reads43_no g w.heap.size (w.heap.size + 1) s0_0 s0_1 112 w0 _ HI2.out (clo44_long g _ _ s0_0 s0_1 a1 w0 _ (HX1.out _ _) (HX2.out _ _) (by omega) HI4.out hc1 ho hc3 hl)).mono ?_
          intro en w1 hh
          obtain ⟨rfl, R⟩ := WIND.out _ _ _ _ _ hh
          clear hh FIN WIND
          go_wp2
          go_ret
          exact ⟨rfl, R.out⟩
        · rename_i hl
          split at H
          · rename_i hq
            obtain ⟨b, hb, H⟩ := Option.bind_eq_some_iff.1 H
            cases b with
            | true =>
              simp only [if_true, Option.some.injEq, Prod.mk.injEq] at H
              obtain ⟨rfl, rfl, rfl, rfl⟩ := H
              refine (reads43_ok g w.heap.size (w.heap.size + 1) s0_0 _ s0_1 _ w0 _ HI2.out ((clo44_read k true g _ _ s0_0 s0_1 a1 w0 _ (HX1.out _ _) (HX2.out _ _) (by omega) (by omega) HI4.out hc1 ho hc3 (by omega) hq hb).mono fun e w' h => ⟨h.1.trans rfl, h.2⟩)).mono ?_
              intro en w1 hh
              obtain ⟨rfl, R⟩ := WIND.out _ _ _ _ _ hh
              clear hh FIN WIND
              go_wp2
              go_ret
              exact ⟨rfl, R.out⟩
            | false =>
              simp only [Bool.false_eq_true, if_false, Option.some.injEq, Prod.mk.injEq] at H
              obtain ⟨rfl, rfl, rfl, rfl⟩ := H
              refine (reads43_no g w.heap.size (w.heap.size + 1) s0_0 s0_1 111 w0 _ HI2.out ((clo44_read k false g _ _ s0_0 s0_1 a1 w0 _ (HX1.out _ _) (HX2.out _ _) (by omega) (by omega) HI4.out hc1 ho hc3 (by omega) hq hb).mono fun e w' h => ⟨h.1.trans rfl, h.2.1, _, h.2.2⟩)).mono ?_
              intro en w1 hh
              obtain ⟨rfl, R⟩ := WIND.out _ _ _ _ _ hh
              clear hh FIN WIND
              go_wp2
              go_ret
              exact ⟨rfl, R.out⟩
          · rename_i hq
            simp only [Option.some.injEq, Prod.mk.injEq] at H
            obtain ⟨rfl, rfl, rfl, rfl⟩ := H
            refine (reads43_no g w.heap.size (w.heap.size + 1) s0_0 s0_1 110 w0 _ HI2.out (clo44_end g _ _ s0_0 s0_1 a1 w0 _ (HX1.out _ _) (HX2.out _ _) (by omega) (by omega) HI4.out hc1 ho hc3 (by omega) (by omega))).mono ?_
            intro en w1 hh
            obtain ⟨rfl, R⟩ := WIND.out _ _ _ _ _ hh
            clear hh FIN WIND
            go_wp2
            go_ret
            exact ⟨rfl, R.out⟩
      · rename_i ho
        simp only [Option.some.injEq, Prod.mk.injEq] at H
        obtain ⟨rfl, rfl, rfl, rfl⟩ := H
        refine (reads43_no g w.heap.size (w.heap.size + 1) s0_0 s0_1 110 w0 _ HI2.out (clo44_short g _ _ s0_0 s0_1 a1 w0 _ (HX1.out _ _) HI4.out hc1 (by omega) hc2 hc3)).mono ?_
        intro en w1 hh
        obtain ⟨rfl, R⟩ := WIND.out _ _ _ _ _ hh
        clear hh FIN WIND
        go_wp2
        go_ret
        exact ⟨rfl, R.out⟩
    · rename_i he
      simp only [Option.some.injEq, Prod.mk.injEq] at H
      obtain ⟨rfl, rfl, rfl, rfl⟩ := H
      refine (reads43_fault g w.heap.size (w.heap.size + 1) s0_0 s0_1 s0_2 w0 _ HI2.out he).mono ?_
      intro en w1 hh
      obtain ⟨rfl, R⟩ := WIND.out _ _ _ _ _ hh
      clear hh FIN WIND he
      go_wp2
      go_ret
      exact ⟨rfl, R.out⟩
  · exact absurd H (by simp)


end Go.Proofs.Ytfhlnmgaammofaa.Q
