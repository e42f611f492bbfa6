-- printed by a program of this session (wip/tools/print2.sh) after the kit's print
import Derived.Test.YtfhlnmgaammofaaQx0
import Derived.Test.YtfhlnmgaammofaaQx3
import Derived.Test.YtfhlnmgaammofaaQx4
import Derived.Test.YtfhlnmgaammofaaQx6
namespace Go.Proofs.Ytfhlnmgaammofaa.Q
open Go.RowKit Go.Proofs.YtfhlnmgaammofaaW.PrintWords Go.Proofs.YtfhlnmgaammofaaW.PrintLast Go.Proofs.YtfhlnmgaammofaaW.PrintMore
attribute [local go_sem] max2_int min2_int max_two min_two max_three min_three max_four min_four   -- for this text's walks alone
set_option linter.unusedVariables false
set_option linter.unusedSimpArgs false

/-! ### quipulaw11_CursorOnce: function 6 -/
mutual
def quipulaw11_CursorOnce.l0 : Nat → ByteArray → List (S41) → Int → ByteArray → Int → Int → Option (Bool)
  | 0, _, _, _, _, _, _ => none
  | k + 1, x0, x1, x6, x185000, x185001, x185002 => if x6 < (x1.length : Int) then ((cursor_Cursor_At.f x185000 x185001 x185002).bind fun bt186 => ((cursor_Cursor_Fault.f bt186.2.1 bt186.2.2.1 bt186.2.2.2).bind fun bt190 => (if 0 ≤ x6 then (if ((rd_T41 x1 x6).f0) = 0 then ((cursor_Cursor_Get8.f bt190.2.2.1 bt190.2.2.2.1 bt190.2.2.2.2).bind fun bt196 => ((cursor_Put8.f k bt196.1).bind fun t200 => (quipulaw11_CursorOnce.j1 k x0 x1 x6 bt186.1 bt190.1 t200 bt196.2.1 bt196.2.2.1 bt196.2.2.2))) else (if ((rd_T41 x1 x6).f0) = 1 then ((cursor_Cursor_Get16.f bt190.2.2.1 bt190.2.2.2.1 bt190.2.2.2.2).bind fun bt201 => ((cursor_Put16.f k bt201.1).bind fun t205 => (quipulaw11_CursorOnce.j1 k x0 x1 x6 bt186.1 bt190.1 t205 bt201.2.1 bt201.2.2.1 bt201.2.2.2))) else (if ((rd_T41 x1 x6).f0) = 2 then ((cursor_Cursor_Get32.f bt190.2.2.1 bt190.2.2.2.1 bt190.2.2.2.2).bind fun bt206 => ((cursor_Put32.f k bt206.1).bind fun t210 => (quipulaw11_CursorOnce.j1 k x0 x1 x6 bt186.1 bt190.1 t210 bt206.2.1 bt206.2.2.1 bt206.2.2.2))) else (if ((rd_T41 x1 x6).f0) = 3 then ((cursor_Cursor_Text.f k bt190.2.2.1 bt190.2.2.2.1 bt190.2.2.2.2 (mn 1024 ((rd_T41 x1 x6).f1))).bind fun bt212 => ((cursor_PutText.f k bt212.1).bind fun bt216 => (if bt216.2 = 0 then (quipulaw11_CursorOnce.j1 k x0 x1 x6 bt186.1 bt190.1 bt216.1 bt212.2.1 bt212.2.2.1 bt212.2.2.2) else (some false)))) else (quipulaw11_CursorOnce.j1 k x0 x1 x6 bt186.1 bt190.1 (⟨#[]⟩ : ByteArray) bt190.2.2.1 bt190.2.2.2.1 bt190.2.2.2.2))))) else (none)))) else ((quipulaw11_fixed.f k).bind fun t185 => (some t185))
def quipulaw11_CursorOnce.j1 : Nat → ByteArray → List (S41) → Int → Int → Int → ByteArray → ByteArray → Int → Int → Option (Bool)
  | 0, _, _, _, _, _, _, _, _, _ => none
  | k + 1, x0, x1, x6, x7, x8, x10, x185000, x185001, x185002 => (cursor_Cursor_Fault.f x185000 x185001 x185002).bind fun bt218 => ((cursor_Cursor_At.f bt218.2.2.1 bt218.2.2.2.1 bt218.2.2.2.2).bind fun bt223 => (if bt218.1 = 0 then (if bt223.1 < x7 then (some false) else (if bt223.1 > (x0.size : Int) then (some false) else (if 0 ≤ x7 then (if x7 ≤ bt223.1 then (if bt223.1 ≤ (x0.size : Int) then (if (x0.extract (x7 : Int).toNat (bt223.1 : Int).toNat).toList = x10.toList then (quipulaw11_CursorOnce.l0 k x0 x1 (wrap64 (x6 + 1)) bt223.2.1 bt223.2.2.1 bt223.2.2.2) else (some false)) else (none)) else (none)) else (none)))) else (if bt223.1 = x7 then (if bt218.2.1 = x7 then (if x8 = 0 then (quipulaw11_CursorOnce.j2 k x0 x1 x6 false bt223.2.1 bt223.2.2.1 bt223.2.2.2) else (quipulaw11_CursorOnce.j2 k x0 x1 x6 (x8 != bt218.1) bt223.2.1 bt223.2.2.1 bt223.2.2.2)) else (quipulaw11_CursorOnce.j2 k x0 x1 x6 true bt223.2.1 bt223.2.2.1 bt223.2.2.2)) else (quipulaw11_CursorOnce.j2 k x0 x1 x6 true bt223.2.1 bt223.2.2.1 bt223.2.2.2))))
def quipulaw11_CursorOnce.j2 : Nat → ByteArray → List (S41) → Int → Bool → ByteArray → Int → Int → Option (Bool)
  | 0, _, _, _, _, _, _, _ => none
  | k + 1, x0, x1, x6, x95, x185000, x185001, x185002 => if x95 = true then (some false) else (quipulaw11_CursorOnce.l0 k x0 x1 (wrap64 (x6 + 1)) x185000 x185001 x185002)
end
def quipulaw11_CursorOnce.f (k : Nat) (a0 : ByteArray) (l1 : List (S41)) : Option (Bool) := (cursor_New.f a0).bind fun bt181 => (quipulaw11_CursorOnce.l0 k a0 l1 0 bt181.1 bt181.2.1 bt181.2.2)
theorem quipulaw11_CursorOnce.mono_l : ∀ k, (∀ y0 y1 y2 y3 y4 y5, LeO (quipulaw11_CursorOnce.l0 k y0 y1 y2 y3 y4 y5) (quipulaw11_CursorOnce.l0 (k + 1) y0 y1 y2 y3 y4 y5)) ∧ (∀ y0 y1 y2 y3 y4 y5 y6 y7 y8, LeO (quipulaw11_CursorOnce.j1 k y0 y1 y2 y3 y4 y5 y6 y7 y8) (quipulaw11_CursorOnce.j1 (k + 1) y0 y1 y2 y3 y4 y5 y6 y7 y8)) ∧ (∀ y0 y1 y2 y3 y4 y5 y6, LeO (quipulaw11_CursorOnce.j2 k y0 y1 y2 y3 y4 y5 y6) (quipulaw11_CursorOnce.j2 (k + 1) y0 y1 y2 y3 y4 y5 y6))
  | 0 => ⟨fun _ _ _ _ _ _ r h => by simp [quipulaw11_CursorOnce.l0] at h, fun _ _ _ _ _ _ _ _ _ r h => by simp [quipulaw11_CursorOnce.j1] at h, fun _ _ _ _ _ _ _ r h => by simp [quipulaw11_CursorOnce.j2] at h⟩
  | k + 1 => by
    obtain ⟨ih0, ih1, ih2⟩ := quipulaw11_CursorOnce.mono_l k
    refine ⟨?_, ?_, ?_⟩
    · intro y0 y1 y2 y3 y4 y5
      unfold quipulaw11_CursorOnce.l0
      repeat' first
      | (with_reducible exact ih0 _ _ _ _ _ _)
      | (with_reducible exact ih1 _ _ _ _ _ _ _ _ _)
      | (with_reducible exact ih2 _ _ _ _ _ _ _)
      | (with_reducible exact cursor_Cursor_Text.mono _ _ _ _ _)
      | (with_reducible exact cursor_Put16.mono _ _)
      | (with_reducible exact cursor_Put32.mono _ _)
      | (with_reducible exact cursor_Put8.mono _ _)
      | (with_reducible exact cursor_PutText.mono _ _)
      | (with_reducible exact quipulaw11_fixed.mono _)
      | (with_reducible exact LeO.refl _)
      | (with_reducible exact LeO.none _)
      | (with_reducible refine LeO.ite ?_ ?_)
      | (with_reducible refine LeO.bind ?_ (fun _ => ?_))
      | exact ih0 _ _ _ _ _ _
      | exact ih1 _ _ _ _ _ _ _ _ _
      | exact ih2 _ _ _ _ _ _ _
      | exact cursor_Cursor_Text.mono _ _ _ _ _
      | exact cursor_Put16.mono _ _
      | exact cursor_Put32.mono _ _
      | exact cursor_Put8.mono _ _
      | exact cursor_PutText.mono _ _
      | exact quipulaw11_fixed.mono _
      | exact LeO.none _
      | refine LeO.ite ?_ ?_
      | refine LeO.bind ?_ (fun _ => ?_)
    · intro y0 y1 y2 y3 y4 y5 y6 y7 y8
      unfold quipulaw11_CursorOnce.j1
      repeat' first
      | (with_reducible exact ih0 _ _ _ _ _ _)
      | (with_reducible exact ih1 _ _ _ _ _ _ _ _ _)
      | (with_reducible exact ih2 _ _ _ _ _ _ _)
      | (with_reducible exact cursor_Cursor_Text.mono _ _ _ _ _)
      | (with_reducible exact cursor_Put16.mono _ _)
      | (with_reducible exact cursor_Put32.mono _ _)
      | (with_reducible exact cursor_Put8.mono _ _)
      | (with_reducible exact cursor_PutText.mono _ _)
      | (with_reducible exact quipulaw11_fixed.mono _)
      | (with_reducible exact LeO.refl _)
      | (with_reducible exact LeO.none _)
      | (with_reducible refine LeO.ite ?_ ?_)
      | (with_reducible refine LeO.bind ?_ (fun _ => ?_))
      | exact ih0 _ _ _ _ _ _
      | exact ih1 _ _ _ _ _ _ _ _ _
      | exact ih2 _ _ _ _ _ _ _
      | exact cursor_Cursor_Text.mono _ _ _ _ _
      | exact cursor_Put16.mono _ _
      | exact cursor_Put32.mono _ _
      | exact cursor_Put8.mono _ _
      | exact cursor_PutText.mono _ _
      | exact quipulaw11_fixed.mono _
      | exact LeO.none _
      | refine LeO.ite ?_ ?_
      | refine LeO.bind ?_ (fun _ => ?_)
    · intro y0 y1 y2 y3 y4 y5 y6
      unfold quipulaw11_CursorOnce.j2
      repeat' first
      | (with_reducible exact ih0 _ _ _ _ _ _)
      | (with_reducible exact ih1 _ _ _ _ _ _ _ _ _)
      | (with_reducible exact ih2 _ _ _ _ _ _ _)
      | (with_reducible exact cursor_Cursor_Text.mono _ _ _ _ _)
      | (with_reducible exact cursor_Put16.mono _ _)
      | (with_reducible exact cursor_Put32.mono _ _)
      | (with_reducible exact cursor_Put8.mono _ _)
      | (with_reducible exact cursor_PutText.mono _ _)
      | (with_reducible exact quipulaw11_fixed.mono _)
      | (with_reducible exact LeO.refl _)
      | (with_reducible exact LeO.none _)
      | (with_reducible refine LeO.ite ?_ ?_)
      | (with_reducible refine LeO.bind ?_ (fun _ => ?_))
      | exact ih0 _ _ _ _ _ _
      | exact ih1 _ _ _ _ _ _ _ _ _
      | exact ih2 _ _ _ _ _ _ _
      | exact cursor_Cursor_Text.mono _ _ _ _ _
      | exact cursor_Put16.mono _ _
      | exact cursor_Put32.mono _ _
      | exact cursor_Put8.mono _ _
      | exact cursor_PutText.mono _ _
      | exact quipulaw11_fixed.mono _
      | exact LeO.none _
      | refine LeO.ite ?_ ?_
      | refine LeO.bind ?_ (fun _ => ?_)
theorem quipulaw11_CursorOnce.mono : ∀ a0 a1 k, LeO (quipulaw11_CursorOnce.f k a0 a1) (quipulaw11_CursorOnce.f (k + 1) a0 a1) := by
  intro a0 a1 k
  obtain ⟨ih0, ih1, ih2⟩ := quipulaw11_CursorOnce.mono_l k
  unfold quipulaw11_CursorOnce.f
  repeat' first
      | (with_reducible exact ih0 _ _ _ _ _ _)
      | (with_reducible exact ih1 _ _ _ _ _ _ _ _ _)
      | (with_reducible exact ih2 _ _ _ _ _ _ _)
      | (with_reducible exact cursor_Cursor_Text.mono _ _ _ _ _)
      | (with_reducible exact cursor_Put16.mono _ _)
      | (with_reducible exact cursor_Put32.mono _ _)
      | (with_reducible exact cursor_Put8.mono _ _)
      | (with_reducible exact cursor_PutText.mono _ _)
      | (with_reducible exact quipulaw11_fixed.mono _)
      | (with_reducible exact LeO.refl _)
      | (with_reducible exact LeO.none _)
      | (with_reducible refine LeO.ite ?_ ?_)
      | (with_reducible refine LeO.bind ?_ (fun _ => ?_))
      | exact ih0 _ _ _ _ _ _
      | exact ih1 _ _ _ _ _ _ _ _ _
      | exact ih2 _ _ _ _ _ _ _
      | exact cursor_Cursor_Text.mono _ _ _ _ _
      | exact cursor_Put16.mono _ _
      | exact cursor_Put32.mono _ _
      | exact cursor_Put8.mono _ _
      | exact cursor_PutText.mono _ _
      | exact quipulaw11_fixed.mono _
      | exact LeO.none _
      | refine LeO.ite ?_ ?_
      | refine LeO.bind ?_ (fun _ => ?_)
set_option maxHeartbeats 8000000 in
set_option maxRecDepth 100000 in
theorem quipulaw11_CursorOnce.calls (k : Nat) (a0 : ByteArray) (A1 : Option Addr) (c1 : Nat) (l1 : List (S41)) (r : Bool) (w : World) (hr1 : Kd.C k41 w A1 l1.length l1) (hc1 : l1.length ≤ c1) (h : quipulaw11_CursorOnce.f k a0 l1 = some r) :
    Calls Try.prog 6 #[.string a0, .slice A1 l1.length c1] w fun e w' => e = .returned (.bool r) ∧ Below w.heap.size w w' := by
  have HR1 := Aside0.mk hr1
  have HC1 := Aside0.mk hc1
  clear hr1 hc1
  have HB := Aside0.mk (Below.refl w.heap.size w)
  have H : ((cursor_New.f a0).bind fun bt181 => (quipulaw11_CursorOnce.l0 k a0 l1 0 bt181.1 bt181.2.1 bt181.2.2)) = some r := h
  clear h
  replace H := Option.bind_eq_some_iff.mp H
  obtain ⟨⟨t181, t182, t183⟩, A30, H⟩ := H
  replace H : (quipulaw11_CursorOnce.l0 k a0 l1 0 t181 t182 t183) = some r := H
  have A3 := Aside0.mk A30
  clear A30
  have H' := Aside0.mk H
  clear H
  go_enter Try.func6, Try.ntmps6
  go_wp2_with (first | ((with_reducible refine gate_callee (f := 21) rfl ?_); refine goesL_ (some 17) rfl rfl Try.func21 (by kernel_rfl) rfl #[.string a0] rfl (by (try simp only [List.map_toArray, List.map_cons, List.map_nil]); first | done | rfl | (simp only [List.length_drop, List.length_take]; rfl)) ?_; (with_reducible refine (cursor_New.calls a0 t181 t182 t183 w _ ?side1 A3.out).mono ?_); (case side1 => repeat (first | (with_reducible first | exact HB.out | apply below_alloc | apply pw_below_drewN | apply below_drew1) | exact HB.out)); rintro e w4 ⟨g184, rfl, hi, hb, hb2⟩; refine ⟨_, rfl, ?_⟩; have n0_ := Aside0.mk (hb); have n1_ := Aside0.mk (hi); clear HB; have HB := n0_; have HI184 := n1_; clear n0_ n1_; (try clear hb); (try clear hb2); (try clear hk); (try clear hi)))
  go_loopg [6] k (fun kq v6 w' => ∃ (x6_1 : Int) (x185000_1 : ByteArray) (x185001_1 : Int) (x185002_1 : Int), v6 = .int .i64 x6_1 ∧ Aside0 (quipulaw11_CursorOnce.l0 kq a0 l1 x6_1 x185000_1 x185001_1 x185002_1 = some r) ∧ Aside0 (kq ≤ k) ∧ Aside0 (IsS59 w w' g184 x185000_1 x185001_1 x185002_1) ∧ Aside0 (Below w.heap.size w w'))
  case atStart => exact ⟨(0), (t181), (t182), (t183), (by first | rfl | (simp; done) | (simp [*]; done)), H', ⟨Nat.le_refl _⟩, ⟨by repeat (first | (with_reducible first | exact HI184.out | apply IsS59.alloc | apply IsS59.drewN | apply IsS59.drew | apply IsS59.set_0 | apply IsS59.set_1 | apply IsS59.set_2) | exact HI184.out)⟩, ⟨by repeat (first | (with_reducible first | exact HB.out | apply below_alloc | apply pw_below_drewN | apply below_drew1 | refine below_set ?_ (IsS59.ge HI184.out)) | exact HB.out)⟩⟩
  case round =>
    clear H'
    try clear c1
    try clear c2
    try clear p2
    obtain ⟨x6_1, x185000_1, x185001_1, x185002_1, rfl, HA, HK1, HI184, HB⟩ := hrel
    cases gk with
    | zero => exact absurd HA.out (by simp [quipulaw11_CursorOnce.l0])
    | succ k1 =>
      have H := HA.out
      clear HA
      simp only [quipulaw11_CursorOnce.l0] at H
      by_cases c5 : x6_1 < (l1.length : Int)
      · rw [if_pos c5] at H
        have c5b0 : decide (x6_1 < (l1.length : Int)) = true := decide_eq_true c5
        clear c5
        replace H := Option.bind_eq_some_iff.mp H
        obtain ⟨⟨t186, t187, t188, t189⟩, A60, H⟩ := H
        replace H : ((cursor_Cursor_Fault.f t187 t188 t189).bind fun bt190 => (if 0 ≤ x6_1 then (if ((rd_T41 l1 x6_1).f0) = 0 then ((cursor_Cursor_Get8.f bt190.2.2.1 bt190.2.2.2.1 bt190.2.2.2.2).bind fun bt196 => ((cursor_Put8.f k1 bt196.1).bind fun t200 => (quipulaw11_CursorOnce.j1 k1 a0 l1 x6_1 t186 bt190.1 t200 bt196.2.1 bt196.2.2.1 bt196.2.2.2))) else (if ((rd_T41 l1 x6_1).f0) = 1 then ((cursor_Cursor_Get16.f bt190.2.2.1 bt190.2.2.2.1 bt190.2.2.2.2).bind fun bt201 => ((cursor_Put16.f k1 bt201.1).bind fun t205 => (quipulaw11_CursorOnce.j1 k1 a0 l1 x6_1 t186 bt190.1 t205 bt201.2.1 bt201.2.2.1 bt201.2.2.2))) else (if ((rd_T41 l1 x6_1).f0) = 2 then ((cursor_Cursor_Get32.f bt190.2.2.1 bt190.2.2.2.1 bt190.2.2.2.2).bind fun bt206 => ((cursor_Put32.f k1 bt206.1).bind fun t210 => (quipulaw11_CursorOnce.j1 k1 a0 l1 x6_1 t186 bt190.1 t210 bt206.2.1 bt206.2.2.1 bt206.2.2.2))) else (if ((rd_T41 l1 x6_1).f0) = 3 then ((cursor_Cursor_Text.f k1 bt190.2.2.1 bt190.2.2.2.1 bt190.2.2.2.2 (mn 1024 ((rd_T41 l1 x6_1).f1))).bind fun bt212 => ((cursor_PutText.f k1 bt212.1).bind fun bt216 => (if bt216.2 = 0 then (quipulaw11_CursorOnce.j1 k1 a0 l1 x6_1 t186 bt190.1 bt216.1 bt212.2.1 bt212.2.2.1 bt212.2.2.2) else (some false)))) else (quipulaw11_CursorOnce.j1 k1 a0 l1 x6_1 t186 bt190.1 (⟨#[]⟩ : ByteArray) bt190.2.2.1 bt190.2.2.2.1 bt190.2.2.2.2))))) else (none))) = some r := H
        have A6 := Aside0.mk A60
        clear A60
        replace H := Option.bind_eq_some_iff.mp H
        obtain ⟨⟨t190, t191, t192, t193, t194⟩, A70, H⟩ := H
        replace H : (if 0 ≤ x6_1 then (if ((rd_T41 l1 x6_1).f0) = 0 then ((cursor_Cursor_Get8.f t192 t193 t194).bind fun bt196 => ((cursor_Put8.f k1 bt196.1).bind fun t200 => (quipulaw11_CursorOnce.j1 k1 a0 l1 x6_1 t186 t190 t200 bt196.2.1 bt196.2.2.1 bt196.2.2.2))) else (if ((rd_T41 l1 x6_1).f0) = 1 then ((cursor_Cursor_Get16.f t192 t193 t194).bind fun bt201 => ((cursor_Put16.f k1 bt201.1).bind fun t205 => (quipulaw11_CursorOnce.j1 k1 a0 l1 x6_1 t186 t190 t205 bt201.2.1 bt201.2.2.1 bt201.2.2.2))) else (if ((rd_T41 l1 x6_1).f0) = 2 then ((cursor_Cursor_Get32.f t192 t193 t194).bind fun bt206 => ((cursor_Put32.f k1 bt206.1).bind fun t210 => (quipulaw11_CursorOnce.j1 k1 a0 l1 x6_1 t186 t190 t210 bt206.2.1 bt206.2.2.1 bt206.2.2.2))) else (if ((rd_T41 l1 x6_1).f0) = 3 then ((cursor_Cursor_Text.f k1 t192 t193 t194 (mn 1024 ((rd_T41 l1 x6_1).f1))).bind fun bt212 => ((cursor_PutText.f k1 bt212.1).bind fun bt216 => (if bt216.2 = 0 then (quipulaw11_CursorOnce.j1 k1 a0 l1 x6_1 t186 t190 bt216.1 bt212.2.1 bt212.2.2.1 bt212.2.2.2) else (some false)))) else (quipulaw11_CursorOnce.j1 k1 a0 l1 x6_1 t186 t190 (⟨#[]⟩ : ByteArray) t192 t193 t194))))) else (none)) = some r := H
        have A7 := Aside0.mk A70
        clear A70
        by_cases c8 : 0 ≤ x6_1
        · rw [if_pos c8] at H
          have c8b0 : decide (0 ≤ x6_1) = true := decide_eq_true c8
          clear c8
          have HC9 := Aside0.mk H
          clear H
          go_upto_block 2 with (first | ((with_reducible refine gate_callee (f := 22) rfl ?_); refine goesL_ (some 27) rfl rfl Try.func22 (by kernel_rfl) rfl #[.pointer (some ⟨g184, 0, none⟩)] rfl (by (try simp only [List.map_toArray, List.map_cons, List.map_nil]); first | done | rfl | (simp only [List.length_drop, List.length_take]; rfl)) ?_; (with_reducible refine (cursor_Cursor_At.calls g184 x185000_1 x185001_1 x185002_1 t186 t187 t188 t189 w _ ?side1 ?side2 A6.out).mono ?_); (case side1 => repeat (first | (with_reducible first | exact HI184.out | apply IsS59.alloc | apply IsS59.drewN | apply IsS59.drew | apply IsS59.set_0 | apply IsS59.set_1 | apply IsS59.set_2) | exact HI184.out)); (case side2 => repeat (first | (with_reducible first | exact HB.out | apply below_alloc | apply pw_below_drewN | apply below_drew1 | refine below_set ?_ (IsS59.ge HI184.out)) | exact HB.out)); rintro e w10 ⟨rfl, hi, hb, hk⟩; refine ⟨_, rfl, ?_⟩; have n0_ := Aside0.mk (hb); have n1_ := Aside0.mk (hi); clear HB; clear HI184; have HB := n0_; have HI184 := n1_; clear n0_ n1_; (try clear hb); (try clear hb2); (try clear hk); (try clear hi)) | ((with_reducible refine gate_callee (f := 23) rfl ?_); refine goesL_ (some 30) rfl rfl Try.func23 (by kernel_rfl) rfl #[.pointer (some ⟨g184, 0, none⟩)] rfl (by (try simp only [List.map_toArray, List.map_cons, List.map_nil]); first | done | rfl | (simp only [List.length_drop, List.length_take]; rfl)) ?_; (with_reducible refine (cursor_Cursor_Fault.calls g184 t187 t188 t189 t190 t191 t192 t193 t194 w _ ?side1 ?side2 A7.out).mono ?_); (case side1 => repeat (first | (with_reducible first | exact HI184.out | apply IsS59.alloc | apply IsS59.drewN | apply IsS59.drew | apply IsS59.set_0 | apply IsS59.set_1 | apply IsS59.set_2) | exact HI184.out)); (case side2 => repeat (first | (with_reducible first | exact HB.out | apply below_alloc | apply pw_below_drewN | apply below_drew1 | refine below_set ?_ (IsS59.ge HI184.out)) | exact HB.out)); rintro e w11 ⟨rfl, hi, hb, hk⟩; refine ⟨_, rfl, ?_⟩; have n0_ := Aside0.mk (hb); have n1_ := Aside0.mk (hi); clear HB; clear HI184; have HB := n0_; have HI184 := n1_; clear n0_ n1_; (try clear hb); (try clear hb2); (try clear hk); (try clear hi); have p195 : 0 ≤ (x6_1 : Int) := of_decide_eq_true (by first | (with_reducible assumption) | assumption); have q195 : x6_1 < (l1.length : Int) := of_decide_eq_true (by first | (with_reducible assumption) | assumption); obtain ⟨ad195, e195, hx195_0, hx195_1⟩ := at_T41 HR1.out x6_1 p195 q195; cases e195; replace hx195_0 := (HB.out.cell (World.block_lt_of_cell? w _ hx195_0)).trans hx195_0; replace hx195_1 := (HB.out.cell (World.block_lt_of_cell? w _ hx195_1)).trans hx195_1; replace p195 := eq_true p195; replace q195 := eq_true q195))
          (try simp only [Act.put, List.setIfInBounds_toArray, List.set_cons_zero, List.set_cons_succ])
          go_cut [10] (fun v10 wc => ∃ (kq : Nat) (x10_8 : ByteArray) (x185000_8 : ByteArray) (x185001_8 : Int) (x185002_8 : Int), v10 = .string x10_8 ∧ Aside0 (quipulaw11_CursorOnce.j1 kq a0 l1 x6_1 t186 t190 x10_8 x185000_8 x185001_8 x185002_8 = some r) ∧ Aside0 (kq ≤ k1) ∧ Aside0 (IsS59 w wc g184 x185000_8 x185001_8 x185002_8) ∧ Aside0 (Below w.heap.size w wc))
          case first =>
            have H := HC9.out
            clear HC9
            by_cases c12 : ((rd_T41 l1 x6_1).f0) = 0
            · rw [if_pos c12] at H
              have c12b0 : (((rd_T41 l1 x6_1).f0) == 0) = true := beq_iff_eq.mpr c12
              have c12b1 : (((rd_T41 l1 x6_1).f0) != 0) = false := bne_eq_false_iff_eq.mpr c12
              clear c12
              (first | rw [c12b0] | (simp only [i64_w, i32_w]; rw [c12b0]) | skip)
              replace H := Option.bind_eq_some_iff.mp H
              obtain ⟨⟨t196, t197, t198, t199⟩, A130, H⟩ := H
              replace H : ((cursor_Put8.f k1 t196).bind fun t200 => (quipulaw11_CursorOnce.j1 k1 a0 l1 x6_1 t186 t190 t200 t197 t198 t199)) = some r := H
              have A13 := Aside0.mk A130
              clear A130
              replace H := Option.bind_eq_some_iff.mp H
              obtain ⟨t200, A140, H⟩ := H
              replace H : (quipulaw11_CursorOnce.j1 k1 a0 l1 x6_1 t186 t190 t200 t197 t198 t199) = some r := H
              have A14 := Aside0.mk A140
              clear A140
              have H' := Aside0.mk H
              clear H
              go_wp2_with (first | ((with_reducible refine gate_callee (f := 24) rfl ?_); refine goesL_ (some 41) rfl rfl Try.func24 (by kernel_rfl) rfl #[.pointer (some ⟨g184, 0, none⟩)] rfl (by (try simp only [List.map_toArray, List.map_cons, List.map_nil]); first | done | rfl | (simp only [List.length_drop, List.length_take]; rfl)) ?_; (with_reducible refine (cursor_Cursor_Get8.calls g184 t192 t193 t194 t196 t197 t198 t199 w _ ?side1 ?side2 A13.out).mono ?_); (case side1 => repeat (first | (with_reducible first | exact HI184.out | apply IsS59.alloc | apply IsS59.drewN | apply IsS59.drew | apply IsS59.set_0 | apply IsS59.set_1 | apply IsS59.set_2) | exact HI184.out)); (case side2 => repeat (first | (with_reducible first | exact HB.out | apply below_alloc | apply pw_below_drewN | apply below_drew1 | refine below_set ?_ (IsS59.ge HI184.out)) | exact HB.out)); rintro e w15 ⟨rfl, hi, hb, hk⟩; refine ⟨_, rfl, ?_⟩; have n0_ := Aside0.mk (hb); have n1_ := Aside0.mk (hi); clear HB; clear HI184; have HB := n0_; have HI184 := n1_; clear n0_ n1_; (try clear hb); (try clear hb2); (try clear hk); (try clear hi)) | ((with_reducible refine gate_callee (f := 17) rfl ?_); refine goesL_ (some 42) rfl rfl Try.func17 (by kernel_rfl) rfl #[.int .i64 t196] rfl (by (try simp only [List.map_toArray, List.map_cons, List.map_nil]); first | done | rfl | (simp only [List.length_drop, List.length_take]; rfl)) ?_; (with_reducible refine (cursor_Put8.calls k1 t196 t200 _ A14.out).mono ?_); rintro e w16 ⟨rfl, hb⟩; refine ⟨_, rfl, ?_⟩; have n0_ := Aside0.mk (IsS59.below (by repeat (first | (with_reducible first | exact HI184.out | apply IsS59.alloc | apply IsS59.drewN | apply IsS59.drew | apply IsS59.set_0 | apply IsS59.set_1 | apply IsS59.set_2) | exact HI184.out)) hb); have n1_ := Aside0.mk (below_step (by repeat (first | (with_reducible first | exact HB.out | apply below_alloc | apply pw_below_drewN | apply below_drew1 | refine below_set ?_ (IsS59.ge HI184.out)) | exact HB.out)) hb); clear HI184; clear HB; have HI184 := n0_; have HB := n1_; clear n0_ n1_; (try clear hb); (try clear hb2); (try clear hk); (try clear hi)))
              go_meet
              case rel => exact ⟨_, (t200), (t197), (t198), (t199), (by first | rfl | (simp; done) | (simp [*]; done)), H', ⟨by have := HK1.out; first | omega | exact Nat.le_refl _⟩, ⟨by repeat (first | (with_reducible first | exact HI184.out | apply IsS59.alloc | apply IsS59.drewN | apply IsS59.drew | apply IsS59.set_0 | apply IsS59.set_1 | apply IsS59.set_2) | exact HI184.out)⟩, ⟨by repeat (first | (with_reducible first | exact HB.out | apply below_alloc | apply pw_below_drewN | apply below_drew1 | refine below_set ?_ (IsS59.ge HI184.out)) | exact HB.out)⟩⟩
            · rw [if_neg c12] at H
              have c12b0 : (((rd_T41 l1 x6_1).f0) == 0) = false := beq_eq_false_iff_ne.mpr c12
              have c12b1 : (((rd_T41 l1 x6_1).f0) != 0) = true := bne_iff_ne.mpr c12
              (first | rw [c12b0] | (simp only [i64_w, i32_w]; rw [c12b0]) | skip)
              by_cases c17 : ((rd_T41 l1 x6_1).f0) = 1
              · rw [if_pos c17] at H
                have c17b0 : (((rd_T41 l1 x6_1).f0) == 1) = true := beq_iff_eq.mpr c17
                have c17b1 : (((rd_T41 l1 x6_1).f0) != 1) = false := bne_eq_false_iff_eq.mpr c17
                clear c17
                replace H := Option.bind_eq_some_iff.mp H
                obtain ⟨⟨t201, t202, t203, t204⟩, A180, H⟩ := H
                replace H : ((cursor_Put16.f k1 t201).bind fun t205 => (quipulaw11_CursorOnce.j1 k1 a0 l1 x6_1 t186 t190 t205 t202 t203 t204)) = some r := H
                have A18 := Aside0.mk A180
                clear A180
                replace H := Option.bind_eq_some_iff.mp H
                obtain ⟨t205, A190, H⟩ := H
                replace H : (quipulaw11_CursorOnce.j1 k1 a0 l1 x6_1 t186 t190 t205 t202 t203 t204) = some r := H
                have A19 := Aside0.mk A190
                clear A190
                have H' := Aside0.mk H
                clear H
                go_wp2_with (first | ((with_reducible refine gate_callee (f := 25) rfl ?_); refine goesL_ (some 46) rfl rfl Try.func25 (by kernel_rfl) rfl #[.pointer (some ⟨g184, 0, none⟩)] rfl (by (try simp only [List.map_toArray, List.map_cons, List.map_nil]); first | done | rfl | (simp only [List.length_drop, List.length_take]; rfl)) ?_; (with_reducible refine (cursor_Cursor_Get16.calls g184 t192 t193 t194 t201 t202 t203 t204 w _ ?side1 ?side2 A18.out).mono ?_); (case side1 => repeat (first | (with_reducible first | exact HI184.out | apply IsS59.alloc | apply IsS59.drewN | apply IsS59.drew | apply IsS59.set_0 | apply IsS59.set_1 | apply IsS59.set_2) | exact HI184.out)); (case side2 => repeat (first | (with_reducible first | exact HB.out | apply below_alloc | apply pw_below_drewN | apply below_drew1 | refine below_set ?_ (IsS59.ge HI184.out)) | exact HB.out)); rintro e w20 ⟨rfl, hi, hb, hk⟩; refine ⟨_, rfl, ?_⟩; have n0_ := Aside0.mk (hb); have n1_ := Aside0.mk (hi); clear HB; clear HI184; have HB := n0_; have HI184 := n1_; clear n0_ n1_; (try clear hb); (try clear hb2); (try clear hk); (try clear hi)) | ((with_reducible refine gate_callee (f := 19) rfl ?_); refine goesL_ (some 47) rfl rfl Try.func19 (by kernel_rfl) rfl #[.int .i64 t201] rfl (by (try simp only [List.map_toArray, List.map_cons, List.map_nil]); first | done | rfl | (simp only [List.length_drop, List.length_take]; rfl)) ?_; (with_reducible refine (cursor_Put16.calls k1 t201 t205 _ A19.out).mono ?_); rintro e w21 ⟨rfl, hb⟩; refine ⟨_, rfl, ?_⟩; have n0_ := Aside0.mk (IsS59.below (by repeat (first | (with_reducible first | exact HI184.out | apply IsS59.alloc | apply IsS59.drewN | apply IsS59.drew | apply IsS59.set_0 | apply IsS59.set_1 | apply IsS59.set_2) | exact HI184.out)) hb); have n1_ := Aside0.mk (below_step (by repeat (first | (with_reducible first | exact HB.out | apply below_alloc | apply pw_below_drewN | apply below_drew1 | refine below_set ?_ (IsS59.ge HI184.out)) | exact HB.out)) hb); clear HI184; clear HB; have HI184 := n0_; have HB := n1_; clear n0_ n1_; (try clear hb); (try clear hb2); (try clear hk); (try clear hi)))
                go_meet
                case rel => exact ⟨_, (t205), (t202), (t203), (t204), (by first | rfl | (simp; done) | (simp [*]; done)), H', ⟨by have := HK1.out; first | omega | exact Nat.le_refl _⟩, ⟨by repeat (first | (with_reducible first | exact HI184.out | apply IsS59.alloc | apply IsS59.drewN | apply IsS59.drew | apply IsS59.set_0 | apply IsS59.set_1 | apply IsS59.set_2) | exact HI184.out)⟩, ⟨by repeat (first | (with_reducible first | exact HB.out | apply below_alloc | apply pw_below_drewN | apply below_drew1 | refine below_set ?_ (IsS59.ge HI184.out)) | exact HB.out)⟩⟩
              · rw [if_neg c17] at H
                have c17b0 : (((rd_T41 l1 x6_1).f0) == 1) = false := beq_eq_false_iff_ne.mpr c17
                have c17b1 : (((rd_T41 l1 x6_1).f0) != 1) = true := bne_iff_ne.mpr c17
                by_cases c22 : ((rd_T41 l1 x6_1).f0) = 2
                · rw [if_pos c22] at H
                  have c22b0 : (((rd_T41 l1 x6_1).f0) == 2) = true := beq_iff_eq.mpr c22
                  have c22b1 : (((rd_T41 l1 x6_1).f0) != 2) = false := bne_eq_false_iff_eq.mpr c22
                  clear c22
                  replace H := Option.bind_eq_some_iff.mp H
                  obtain ⟨⟨t206, t207, t208, t209⟩, A230, H⟩ := H
                  replace H : ((cursor_Put32.f k1 t206).bind fun t210 => (quipulaw11_CursorOnce.j1 k1 a0 l1 x6_1 t186 t190 t210 t207 t208 t209)) = some r := H
                  have A23 := Aside0.mk A230
                  clear A230
                  replace H := Option.bind_eq_some_iff.mp H
                  obtain ⟨t210, A240, H⟩ := H
                  replace H : (quipulaw11_CursorOnce.j1 k1 a0 l1 x6_1 t186 t190 t210 t207 t208 t209) = some r := H
                  have A24 := Aside0.mk A240
                  clear A240
                  have H' := Aside0.mk H
                  clear H
                  go_wp2_with (first | ((with_reducible refine gate_callee (f := 26) rfl ?_); refine goesL_ (some 51) rfl rfl Try.func26 (by kernel_rfl) rfl #[.pointer (some ⟨g184, 0, none⟩)] rfl (by (try simp only [List.map_toArray, List.map_cons, List.map_nil]); first | done | rfl | (simp only [List.length_drop, List.length_take]; rfl)) ?_; (with_reducible refine (cursor_Cursor_Get32.calls g184 t192 t193 t194 t206 t207 t208 t209 w _ ?side1 ?side2 A23.out).mono ?_); (case side1 => repeat (first | (with_reducible first | exact HI184.out | apply IsS59.alloc | apply IsS59.drewN | apply IsS59.drew | apply IsS59.set_0 | apply IsS59.set_1 | apply IsS59.set_2) | exact HI184.out)); (case side2 => repeat (first | (with_reducible first | exact HB.out | apply below_alloc | apply pw_below_drewN | apply below_drew1 | refine below_set ?_ (IsS59.ge HI184.out)) | exact HB.out)); rintro e w25 ⟨rfl, hi, hb, hk⟩; refine ⟨_, rfl, ?_⟩; have n0_ := Aside0.mk (hb); have n1_ := Aside0.mk (hi); clear HB; clear HI184; have HB := n0_; have HI184 := n1_; clear n0_ n1_; (try clear hb); (try clear hb2); (try clear hk); (try clear hi)) | ((with_reducible refine gate_callee (f := 20) rfl ?_); refine goesL_ (some 52) rfl rfl Try.func20 (by kernel_rfl) rfl #[.int .i64 t206] rfl (by (try simp only [List.map_toArray, List.map_cons, List.map_nil]); first | done | rfl | (simp only [List.length_drop, List.length_take]; rfl)) ?_; (with_reducible refine (cursor_Put32.calls k1 t206 t210 _ A24.out).mono ?_); rintro e w26 ⟨rfl, hb⟩; refine ⟨_, rfl, ?_⟩; have n0_ := Aside0.mk (IsS59.below (by repeat (first | (with_reducible first | exact HI184.out | apply IsS59.alloc | apply IsS59.drewN | apply IsS59.drew | apply IsS59.set_0 | apply IsS59.set_1 | apply IsS59.set_2) | exact HI184.out)) hb); have n1_ := Aside0.mk (below_step (by repeat (first | (with_reducible first | exact HB.out | apply below_alloc | apply pw_below_drewN | apply below_drew1 | refine below_set ?_ (IsS59.ge HI184.out)) | exact HB.out)) hb); clear HI184; clear HB; have HI184 := n0_; have HB := n1_; clear n0_ n1_; (try clear hb); (try clear hb2); (try clear hk); (try clear hi)))
                  go_meet
                  case rel => exact ⟨_, (t210), (t207), (t208), (t209), (by first | rfl | (simp; done) | (simp [*]; done)), H', ⟨by have := HK1.out; first | omega | exact Nat.le_refl _⟩, ⟨by repeat (first | (with_reducible first | exact HI184.out | apply IsS59.alloc | apply IsS59.drewN | apply IsS59.drew | apply IsS59.set_0 | apply IsS59.set_1 | apply IsS59.set_2) | exact HI184.out)⟩, ⟨by repeat (first | (with_reducible first | exact HB.out | apply below_alloc | apply pw_below_drewN | apply below_drew1 | refine below_set ?_ (IsS59.ge HI184.out)) | exact HB.out)⟩⟩
                · rw [if_neg c22] at H
                  have c22b0 : (((rd_T41 l1 x6_1).f0) == 2) = false := beq_eq_false_iff_ne.mpr c22
                  have c22b1 : (((rd_T41 l1 x6_1).f0) != 2) = true := bne_iff_ne.mpr c22
                  by_cases c27 : ((rd_T41 l1 x6_1).f0) = 3
                  · rw [if_pos c27] at H
                    have c27b0 : (((rd_T41 l1 x6_1).f0) == 3) = true := beq_iff_eq.mpr c27
                    have c27b1 : (((rd_T41 l1 x6_1).f0) != 3) = false := bne_eq_false_iff_eq.mpr c27
                    clear c27
                    obtain ⟨ji28, hji28⟩ : ∃ j_ : Int, (mn 1024 ((rd_T41 l1 x6_1).f1)) = j_ := ⟨_, rfl⟩
                    replace H : ((cursor_Cursor_Text.f k1 t192 t193 t194 (ji28)).bind fun bt212 => ((cursor_PutText.f k1 bt212.1).bind fun bt216 => (if bt216.2 = 0 then (quipulaw11_CursorOnce.j1 k1 a0 l1 x6_1 t186 t190 bt216.1 bt212.2.1 bt212.2.2.1 bt212.2.2.2) else (some false)))) = some r := by first | (rw [hji28] at H; exact H) | (simp only [hji28] at H ⊢; exact H)
                    have hji28_ : (if ((rd_T41 l1 x6_1).f1) < 1024 then ((rd_T41 l1 x6_1).f1) else 1024) = ji28 := hji28
                    replace H := Option.bind_eq_some_iff.mp H
                    obtain ⟨⟨t212, t213, t214, t215⟩, A290, H⟩ := H
                    replace H : ((cursor_PutText.f k1 t212).bind fun bt216 => (if bt216.2 = 0 then (quipulaw11_CursorOnce.j1 k1 a0 l1 x6_1 t186 t190 bt216.1 t213 t214 t215) else (some false))) = some r := H
                    have A29 := Aside0.mk A290
                    clear A290
                    replace H := Option.bind_eq_some_iff.mp H
                    obtain ⟨⟨t216, t217⟩, A300, H⟩ := H
                    replace H : (if t217 = 0 then (quipulaw11_CursorOnce.j1 k1 a0 l1 x6_1 t186 t190 t216 t213 t214 t215) else (some false)) = some r := H
                    have A30 := Aside0.mk A300
                    clear A300
                    by_cases c31 : t217 = 0
                    · rw [if_pos c31] at H
                      have c31b0 : (t217 == 0) = true := beq_iff_eq.mpr c31
                      have c31b1 : (t217 != 0) = false := bne_eq_false_iff_eq.mpr c31
                      clear c31
                      have H' := Aside0.mk H
                      clear H
                      have p211 : 0 ≤ (x6_1 : Int) := of_decide_eq_true (by first | (with_reducible assumption) | assumption)
                      have q211 : x6_1 < (l1.length : Int) := of_decide_eq_true (by first | (with_reducible assumption) | assumption)
                      obtain ⟨ad211, e211, hx211_0, hx211_1⟩ := at_T41 HR1.out x6_1 p211 q211
                      obtain rfl : ad195 = ad211 := (by injection e211)
                      replace hx211_0 := (HB.out.cell (World.block_lt_of_cell? w _ hx211_0)).trans hx211_0
                      replace hx211_1 := (HB.out.cell (World.block_lt_of_cell? w _ hx211_1)).trans hx211_1
                      replace p211 := eq_true p211
                      replace q211 := eq_true q211
                      go_wp2_with (first | ((with_reducible refine gate_callee (f := 27) rfl ?_); refine goesL_ (some 63) rfl rfl Try.func27 (by kernel_rfl) rfl #[.pointer (some ⟨g184, 0, none⟩), .int .i64 ji28] rfl (by (try simp only [List.map_toArray, List.map_cons, List.map_nil]); first | done | (simp only [hji28]; rfl) | rfl | (simp only [List.length_drop, List.length_take]; rfl)) ?_; (with_reducible refine (cursor_Cursor_Text.calls k1 g184 t192 t193 t194 ji28 t212 t213 t214 t215 w _ ?side1 ?side2 A29.out).mono ?_); (case side1 => repeat (first | (with_reducible first | exact HI184.out | apply IsS59.alloc | apply IsS59.drewN | apply IsS59.drew | apply IsS59.set_0 | apply IsS59.set_1 | apply IsS59.set_2) | exact HI184.out)); (case side2 => repeat (first | (with_reducible first | exact HB.out | apply below_alloc | apply pw_below_drewN | apply below_drew1 | refine below_set ?_ (IsS59.ge HI184.out)) | exact HB.out)); rintro e w32 ⟨rfl, hi, hb, hk⟩; refine ⟨_, rfl, ?_⟩; have n0_ := Aside0.mk (hb); have n1_ := Aside0.mk (hi); clear HB; clear HI184; have HB := n0_; have HI184 := n1_; clear n0_ n1_; (try clear hb); (try clear hb2); (try clear hk); (try clear hi)) | ((with_reducible refine gate_callee (f := 15) rfl ?_); refine goesL_ (some 64) rfl rfl Try.func15 (by kernel_rfl) rfl #[.string t212] rfl (by (try simp only [List.map_toArray, List.map_cons, List.map_nil]); first | done | rfl | (simp only [List.length_drop, List.length_take]; rfl)) ?_; (with_reducible refine (cursor_PutText.calls k1 t212 t216 t217 _ A30.out).mono ?_); rintro e w33 ⟨rfl, hb⟩; refine ⟨_, rfl, ?_⟩; have n0_ := Aside0.mk (IsS59.below (by repeat (first | (with_reducible first | exact HI184.out | apply IsS59.alloc | apply IsS59.drewN | apply IsS59.drew | apply IsS59.set_0 | apply IsS59.set_1 | apply IsS59.set_2) | exact HI184.out)) hb); have n1_ := Aside0.mk (below_step (by repeat (first | (with_reducible first | exact HB.out | apply below_alloc | apply pw_below_drewN | apply below_drew1 | refine below_set ?_ (IsS59.ge HI184.out)) | exact HB.out)) hb); clear HI184; clear HB; have HI184 := n0_; have HB := n1_; clear n0_ n1_; (try clear hb); (try clear hb2); (try clear hk); (try clear hi)))
                      go_meet
                      case rel => exact ⟨_, (t216), (t213), (t214), (t215), (by first | rfl | (simp; done) | (simp [*]; done)), H', ⟨by have := HK1.out; first | omega | exact Nat.le_refl _⟩, ⟨by repeat (first | (with_reducible first | exact HI184.out | apply IsS59.alloc | apply IsS59.drewN | apply IsS59.drew | apply IsS59.set_0 | apply IsS59.set_1 | apply IsS59.set_2) | exact HI184.out)⟩, ⟨by repeat (first | (with_reducible first | exact HB.out | apply below_alloc | apply pw_below_drewN | apply below_drew1 | refine below_set ?_ (IsS59.ge HI184.out)) | exact HB.out)⟩⟩
                    · rw [if_neg c31] at H
                      have c31b0 : (t217 == 0) = false := beq_eq_false_iff_ne.mpr c31
                      have c31b1 : (t217 != 0) = true := bne_iff_ne.mpr c31
                      obtain rfl := Option.some.inj H
                      have p211 : 0 ≤ (x6_1 : Int) := of_decide_eq_true (by first | (with_reducible assumption) | assumption)
                      have q211 : x6_1 < (l1.length : Int) := of_decide_eq_true (by first | (with_reducible assumption) | assumption)
                      obtain ⟨ad211, e211, hx211_0, hx211_1⟩ := at_T41 HR1.out x6_1 p211 q211
                      obtain rfl : ad195 = ad211 := (by injection e211)
                      replace hx211_0 := (HB.out.cell (World.block_lt_of_cell? w _ hx211_0)).trans hx211_0
                      replace hx211_1 := (HB.out.cell (World.block_lt_of_cell? w _ hx211_1)).trans hx211_1
                      replace p211 := eq_true p211
                      replace q211 := eq_true q211
                      go_wp2_with (first | ((with_reducible refine gate_callee (f := 27) rfl ?_); refine goesL_ (some 63) rfl rfl Try.func27 (by kernel_rfl) rfl #[.pointer (some ⟨g184, 0, none⟩), .int .i64 ji28] rfl (by (try simp only [List.map_toArray, List.map_cons, List.map_nil]); first | done | (simp only [hji28]; rfl) | rfl | (simp only [List.length_drop, List.length_take]; rfl)) ?_; (with_reducible refine (cursor_Cursor_Text.calls k1 g184 t192 t193 t194 ji28 t212 t213 t214 t215 w _ ?side1 ?side2 A29.out).mono ?_); (case side1 => repeat (first | (with_reducible first | exact HI184.out | apply IsS59.alloc | apply IsS59.drewN | apply IsS59.drew | apply IsS59.set_0 | apply IsS59.set_1 | apply IsS59.set_2) | exact HI184.out)); (case side2 => repeat (first | (with_reducible first | exact HB.out | apply below_alloc | apply pw_below_drewN | apply below_drew1 | refine below_set ?_ (IsS59.ge HI184.out)) | exact HB.out)); rintro e w34 ⟨rfl, hi, hb, hk⟩; refine ⟨_, rfl, ?_⟩; have n0_ := Aside0.mk (hb); have n1_ := Aside0.mk (hi); clear HB; clear HI184; have HB := n0_; have HI184 := n1_; clear n0_ n1_; (try clear hb); (try clear hb2); (try clear hk); (try clear hi)) | ((with_reducible refine gate_callee (f := 15) rfl ?_); refine goesL_ (some 64) rfl rfl Try.func15 (by kernel_rfl) rfl #[.string t212] rfl (by (try simp only [List.map_toArray, List.map_cons, List.map_nil]); first | done | rfl | (simp only [List.length_drop, List.length_take]; rfl)) ?_; (with_reducible refine (cursor_PutText.calls k1 t212 t216 t217 _ A30.out).mono ?_); rintro e w35 ⟨rfl, hb⟩; refine ⟨_, rfl, ?_⟩; have n0_ := Aside0.mk (IsS59.below (by repeat (first | (with_reducible first | exact HI184.out | apply IsS59.alloc | apply IsS59.drewN | apply IsS59.drew | apply IsS59.set_0 | apply IsS59.set_1 | apply IsS59.set_2) | exact HI184.out)) hb); have n1_ := Aside0.mk (below_step (by repeat (first | (with_reducible first | exact HB.out | apply below_alloc | apply pw_below_drewN | apply below_drew1 | refine below_set ?_ (IsS59.ge HI184.out)) | exact HB.out)) hb); clear HI184; clear HB; have HI184 := n0_; have HB := n1_; clear n0_ n1_; (try clear hb); (try clear hb2); (try clear hk); (try clear hi)))
                      go_ret
                      exact ⟨by first | rfl | (simp [errW_none, errW_some] <;> rfl) | (simp only [← hji28]; first | rfl | (simp [errW_none, errW_some] <;> rfl)) | (simp [*, errW_none, errW_some] <;> rfl), by repeat (first | (with_reducible first | exact HB.out | apply below_alloc | apply pw_below_drewN | apply below_drew1 | refine below_set ?_ (IsS59.ge HI184.out)) | exact HB.out)⟩
                  · rw [if_neg c27] at H
                    have c27b0 : (((rd_T41 l1 x6_1).f0) == 3) = false := beq_eq_false_iff_ne.mpr c27
                    have c27b1 : (((rd_T41 l1 x6_1).f0) != 3) = true := bne_iff_ne.mpr c27
                    have H' := Aside0.mk H
                    clear H
                    go_wp2
                    go_meet
                    case rel => exact ⟨_, ((⟨#[]⟩ : ByteArray)), (t192), (t193), (t194), (by first | rfl | (simp; done) | (simp [*]; done)), H', ⟨by have := HK1.out; first | omega | exact Nat.le_refl _⟩, ⟨by repeat (first | (with_reducible first | exact HI184.out | apply IsS59.alloc | apply IsS59.drewN | apply IsS59.drew | apply IsS59.set_0 | apply IsS59.set_1 | apply IsS59.set_2) | exact HI184.out)⟩, ⟨by repeat (first | (with_reducible first | exact HB.out | apply below_alloc | apply pw_below_drewN | apply below_drew1 | refine below_set ?_ (IsS59.ge HI184.out)) | exact HB.out)⟩⟩
          case rest =>
            clear HC9
            try clear c1
            try clear p1
            try clear q1
            try clear hx1
            try clear c2
            try clear p2
            try clear q2
            try clear hx2
            try clear c3
            try clear c5
            try clear c5b0
            try clear c6
            try clear c8
            try clear c8b0
            try clear c12
            try clear c12b0
            try clear c12b1
            try clear c15
            try clear c17
            try clear c17b0
            try clear c17b1
            try clear c19
            try clear p19
            try clear q19
            try clear hx19
            try clear c20
            try clear c21
            try clear p21
            try clear q21
            try clear hx21
            try clear c22
            try clear c22b0
            try clear c22b1
            try clear c23
            try clear c24
            try clear c25
            try clear c26
            try clear c27
            try clear c27b0
            try clear c27b1
            try clear c31
            try clear c31b0
            try clear c31b1
            try clear hx195_0
            try clear hx195_1
            try clear hx211_0
            try clear hx211_1
            try clear p195
            try clear p2
            try clear p211
            try clear q195
            try clear q211
            obtain ⟨kq, x10_8, x185000_8, x185001_8, x185002_8, rfl, HA, HJ8, HI184, HB⟩ := hcut
            cases kq with
            | zero => exact absurd HA.out (by simp [quipulaw11_CursorOnce.j1])
            | succ kj8 =>
              have H := HA.out
              clear HA
              simp only [quipulaw11_CursorOnce.j1] at H
              replace H := Option.bind_eq_some_iff.mp H
              obtain ⟨⟨t218, t219, t220, t221, t222⟩, A360, H⟩ := H
              replace H : ((cursor_Cursor_At.f t220 t221 t222).bind fun bt223 => (if t218 = 0 then (if bt223.1 < t186 then (some false) else (if bt223.1 > (a0.size : Int) then (some false) else (if 0 ≤ t186 then (if t186 ≤ bt223.1 then (if bt223.1 ≤ (a0.size : Int) then (if (a0.extract (t186 : Int).toNat (bt223.1 : Int).toNat).toList = x10_8.toList then (quipulaw11_CursorOnce.l0 kj8 a0 l1 (wrap64 (x6_1 + 1)) bt223.2.1 bt223.2.2.1 bt223.2.2.2) else (some false)) else (none)) else (none)) else (none)))) else (if bt223.1 = t186 then (if t219 = t186 then (if t190 = 0 then (quipulaw11_CursorOnce.j2 kj8 a0 l1 x6_1 false bt223.2.1 bt223.2.2.1 bt223.2.2.2) else (quipulaw11_CursorOnce.j2 kj8 a0 l1 x6_1 (t190 != t218) bt223.2.1 bt223.2.2.1 bt223.2.2.2)) else (quipulaw11_CursorOnce.j2 kj8 a0 l1 x6_1 true bt223.2.1 bt223.2.2.1 bt223.2.2.2)) else (quipulaw11_CursorOnce.j2 kj8 a0 l1 x6_1 true bt223.2.1 bt223.2.2.1 bt223.2.2.2)))) = some r := H
              have A36 := Aside0.mk A360
              clear A360
              replace H := Option.bind_eq_some_iff.mp H
              obtain ⟨⟨t223, t224, t225, t226⟩, A370, H⟩ := H
              replace H : (if t218 = 0 then (if t223 < t186 then (some false) else (if t223 > (a0.size : Int) then (some false) else (if 0 ≤ t186 then (if t186 ≤ t223 then (if t223 ≤ (a0.size : Int) then (if (a0.extract (t186 : Int).toNat (t223 : Int).toNat).toList = x10_8.toList then (quipulaw11_CursorOnce.l0 kj8 a0 l1 (wrap64 (x6_1 + 1)) t224 t225 t226) else (some false)) else (none)) else (none)) else (none)))) else (if t223 = t186 then (if t219 = t186 then (if t190 = 0 then (quipulaw11_CursorOnce.j2 kj8 a0 l1 x6_1 false t224 t225 t226) else (quipulaw11_CursorOnce.j2 kj8 a0 l1 x6_1 (t190 != t218) t224 t225 t226)) else (quipulaw11_CursorOnce.j2 kj8 a0 l1 x6_1 true t224 t225 t226)) else (quipulaw11_CursorOnce.j2 kj8 a0 l1 x6_1 true t224 t225 t226))) = some r := H
              have A37 := Aside0.mk A370
              clear A370
              by_cases c38 : t218 = 0
              · rw [if_pos c38] at H
                have c38b0 : (t218 == 0) = true := beq_iff_eq.mpr c38
                have c38b1 : (t218 != 0) = false := bne_eq_false_iff_eq.mpr c38
                clear c38
                by_cases c39 : t223 < t186
                · rw [if_pos c39] at H
                  have c39b0 : decide (t223 < t186) = true := decide_eq_true c39
                  clear c39
                  obtain rfl := Option.some.inj H
                  go_wp2_with (first | ((with_reducible refine gate_callee (f := 23) rfl ?_); refine goesL_ (some 72) rfl rfl Try.func23 (by kernel_rfl) rfl #[.pointer (some ⟨g184, 0, none⟩)] rfl (by (try simp only [List.map_toArray, List.map_cons, List.map_nil]); first | done | rfl | (simp only [List.length_drop, List.length_take]; rfl)) ?_; (with_reducible refine (cursor_Cursor_Fault.calls g184 x185000_8 x185001_8 x185002_8 t218 t219 t220 t221 t222 w _ ?side1 ?side2 A36.out).mono ?_); (case side1 => repeat (first | (with_reducible first | exact HI184.out | apply IsS59.alloc | apply IsS59.drewN | apply IsS59.drew | apply IsS59.set_0 | apply IsS59.set_1 | apply IsS59.set_2) | exact HI184.out)); (case side2 => repeat (first | (with_reducible first | exact HB.out | apply below_alloc | apply pw_below_drewN | apply below_drew1 | refine below_set ?_ (IsS59.ge HI184.out)) | exact HB.out)); rintro e w40 ⟨rfl, hi, hb, hk⟩; refine ⟨_, rfl, ?_⟩; have n0_ := Aside0.mk (hb); have n1_ := Aside0.mk (hi); clear HB; clear HI184; have HB := n0_; have HI184 := n1_; clear n0_ n1_; (try clear hb); (try clear hb2); (try clear hk); (try clear hi)) | ((with_reducible refine gate_callee (f := 22) rfl ?_); refine goesL_ (some 76) rfl rfl Try.func22 (by kernel_rfl) rfl #[.pointer (some ⟨g184, 0, none⟩)] rfl (by (try simp only [List.map_toArray, List.map_cons, List.map_nil]); first | done | rfl | (simp only [List.length_drop, List.length_take]; rfl)) ?_; (with_reducible refine (cursor_Cursor_At.calls g184 t220 t221 t222 t223 t224 t225 t226 w _ ?side1 ?side2 A37.out).mono ?_); (case side1 => repeat (first | (with_reducible first | exact HI184.out | apply IsS59.alloc | apply IsS59.drewN | apply IsS59.drew | apply IsS59.set_0 | apply IsS59.set_1 | apply IsS59.set_2) | exact HI184.out)); (case side2 => repeat (first | (with_reducible first | exact HB.out | apply below_alloc | apply pw_below_drewN | apply below_drew1 | refine below_set ?_ (IsS59.ge HI184.out)) | exact HB.out)); rintro e w41 ⟨rfl, hi, hb, hk⟩; refine ⟨_, rfl, ?_⟩; have n0_ := Aside0.mk (hb); have n1_ := Aside0.mk (hi); clear HB; clear HI184; have HB := n0_; have HI184 := n1_; clear n0_ n1_; (try clear hb); (try clear hb2); (try clear hk); (try clear hi)))
                  go_ret
                  exact ⟨by first | rfl | (simp [errW_none, errW_some] <;> rfl) | (simp [*, errW_none, errW_some] <;> rfl), by repeat (first | (with_reducible first | exact HB.out | apply below_alloc | apply pw_below_drewN | apply below_drew1 | refine below_set ?_ (IsS59.ge HI184.out)) | exact HB.out)⟩
                · rw [if_neg c39] at H
                  have c39b0 : decide (t223 < t186) = false := decide_eq_false c39
                  clear c39
                  by_cases c42 : t223 > (a0.size : Int)
                  · rw [if_pos c42] at H
                    have c42b0 : decide ((a0.size : Int) < t223) = true := decide_eq_true c42
                    clear c42
                    obtain rfl := Option.some.inj H
                    go_wp2_with (first | ((with_reducible refine gate_callee (f := 23) rfl ?_); refine goesL_ (some 72) rfl rfl Try.func23 (by kernel_rfl) rfl #[.pointer (some ⟨g184, 0, none⟩)] rfl (by (try simp only [List.map_toArray, List.map_cons, List.map_nil]); first | done | rfl | (simp only [List.length_drop, List.length_take]; rfl)) ?_; (with_reducible refine (cursor_Cursor_Fault.calls g184 x185000_8 x185001_8 x185002_8 t218 t219 t220 t221 t222 w _ ?side1 ?side2 A36.out).mono ?_); (case side1 => repeat (first | (with_reducible first | exact HI184.out | apply IsS59.alloc | apply IsS59.drewN | apply IsS59.drew | apply IsS59.set_0 | apply IsS59.set_1 | apply IsS59.set_2) | exact HI184.out)); (case side2 => repeat (first | (with_reducible first | exact HB.out | apply below_alloc | apply pw_below_drewN | apply below_drew1 | refine below_set ?_ (IsS59.ge HI184.out)) | exact HB.out)); rintro e w43 ⟨rfl, hi, hb, hk⟩; refine ⟨_, rfl, ?_⟩; have n0_ := Aside0.mk (hb); have n1_ := Aside0.mk (hi); clear HB; clear HI184; have HB := n0_; have HI184 := n1_; clear n0_ n1_; (try clear hb); (try clear hb2); (try clear hk); (try clear hi)) | ((with_reducible refine gate_callee (f := 22) rfl ?_); refine goesL_ (some 76) rfl rfl Try.func22 (by kernel_rfl) rfl #[.pointer (some ⟨g184, 0, none⟩)] rfl (by (try simp only [List.map_toArray, List.map_cons, List.map_nil]); first | done | rfl | (simp only [List.length_drop, List.length_take]; rfl)) ?_; (with_reducible refine (cursor_Cursor_At.calls g184 t220 t221 t222 t223 t224 t225 t226 w _ ?side1 ?side2 A37.out).mono ?_); (case side1 => repeat (first | (with_reducible first | exact HI184.out | apply IsS59.alloc | apply IsS59.drewN | apply IsS59.drew | apply IsS59.set_0 | apply IsS59.set_1 | apply IsS59.set_2) | exact HI184.out)); (case side2 => repeat (first | (with_reducible first | exact HB.out | apply below_alloc | apply pw_below_drewN | apply below_drew1 | refine below_set ?_ (IsS59.ge HI184.out)) | exact HB.out)); rintro e w44 ⟨rfl, hi, hb, hk⟩; refine ⟨_, rfl, ?_⟩; have n0_ := Aside0.mk (hb); have n1_ := Aside0.mk (hi); clear HB; clear HI184; have HB := n0_; have HI184 := n1_; clear n0_ n1_; (try clear hb); (try clear hb2); (try clear hk); (try clear hi)))
                    go_ret
                    exact ⟨by first | rfl | (simp [errW_none, errW_some] <;> rfl) | (simp [*, errW_none, errW_some] <;> rfl), by repeat (first | (with_reducible first | exact HB.out | apply below_alloc | apply pw_below_drewN | apply below_drew1 | refine below_set ?_ (IsS59.ge HI184.out)) | exact HB.out)⟩
                  · rw [if_neg c42] at H
                    have c42b0 : decide ((a0.size : Int) < t223) = false := decide_eq_false c42
                    clear c42
                    by_cases c45 : 0 ≤ t186
                    · rw [if_pos c45] at H
                      have c45b0 := eq_true c45
                      have c45b1 : decide (0 ≤ t186) = true := decide_eq_true c45
                      clear c45
                      by_cases c46 : t186 ≤ t223
                      · rw [if_pos c46] at H
                        have c46b0 := eq_true c46
                        have c46b1 : decide (t186 ≤ t223) = true := decide_eq_true c46
                        clear c46
                        by_cases c47 : t223 ≤ (a0.size : Int)
                        · rw [if_pos c47] at H
                          have c47b0 := eq_true c47
                          have c47b1 : decide (t223 ≤ (a0.size : Int)) = true := decide_eq_true c47
                          clear c47
                          by_cases c48 : (a0.extract (t186 : Int).toNat (t223 : Int).toNat).toList = x10_8.toList
                          · rw [if_pos c48] at H
                            have c48b0 : ((a0.extract (t186 : Int).toNat (t223 : Int).toNat).toList == x10_8.toList) = true := beq_iff_eq.mpr c48
                            have c48b1 : ((a0.extract (t186 : Int).toNat (t223 : Int).toNat).toList != x10_8.toList) = false := bne_eq_false_iff_eq.mpr c48
                            clear c48
                            have H' := Aside0.mk H
                            clear H
                            go_wp2_with (first | ((with_reducible refine gate_callee (f := 23) rfl ?_); refine goesL_ (some 72) rfl rfl Try.func23 (by kernel_rfl) rfl #[.pointer (some ⟨g184, 0, none⟩)] rfl (by (try simp only [List.map_toArray, List.map_cons, List.map_nil]); first | done | rfl | (simp only [List.length_drop, List.length_take]; rfl)) ?_; (with_reducible refine (cursor_Cursor_Fault.calls g184 x185000_8 x185001_8 x185002_8 t218 t219 t220 t221 t222 w _ ?side1 ?side2 A36.out).mono ?_); (case side1 => repeat (first | (with_reducible first | exact HI184.out | apply IsS59.alloc | apply IsS59.drewN | apply IsS59.drew | apply IsS59.set_0 | apply IsS59.set_1 | apply IsS59.set_2) | exact HI184.out)); (case side2 => repeat (first | (with_reducible first | exact HB.out | apply below_alloc | apply pw_below_drewN | apply below_drew1 | refine below_set ?_ (IsS59.ge HI184.out)) | exact HB.out)); rintro e w49 ⟨rfl, hi, hb, hk⟩; refine ⟨_, rfl, ?_⟩; have n0_ := Aside0.mk (hb); have n1_ := Aside0.mk (hi); clear HB; clear HI184; have HB := n0_; have HI184 := n1_; clear n0_ n1_; (try clear hb); (try clear hb2); (try clear hk); (try clear hi)) | ((with_reducible refine gate_callee (f := 22) rfl ?_); refine goesL_ (some 76) rfl rfl Try.func22 (by kernel_rfl) rfl #[.pointer (some ⟨g184, 0, none⟩)] rfl (by (try simp only [List.map_toArray, List.map_cons, List.map_nil]); first | done | rfl | (simp only [List.length_drop, List.length_take]; rfl)) ?_; (with_reducible refine (cursor_Cursor_At.calls g184 t220 t221 t222 t223 t224 t225 t226 w _ ?side1 ?side2 A37.out).mono ?_); (case side1 => repeat (first | (with_reducible first | exact HI184.out | apply IsS59.alloc | apply IsS59.drewN | apply IsS59.drew | apply IsS59.set_0 | apply IsS59.set_1 | apply IsS59.set_2) | exact HI184.out)); (case side2 => repeat (first | (with_reducible first | exact HB.out | apply below_alloc | apply pw_below_drewN | apply below_drew1 | refine below_set ?_ (IsS59.ge HI184.out)) | exact HB.out)); rintro e w50 ⟨rfl, hi, hb, hk⟩; refine ⟨_, rfl, ?_⟩; have n0_ := Aside0.mk (hb); have n1_ := Aside0.mk (hi); clear HB; clear HI184; have HB := n0_; have HI184 := n1_; clear n0_ n1_; (try clear hb); (try clear hb2); (try clear hk); (try clear hi)))
                            go_roundg kj8
                            case measure => have := HK1.out; have := HJ8.out; omega
                            case rel => exact ⟨(wrap64 (x6_1 + 1)), (t224), (t225), (t226), (by first | rfl | (simp; done) | (simp [*]; done)), H', ⟨by have := HK1.out; have := HJ8.out; omega⟩, ⟨by repeat (first | (with_reducible first | exact HI184.out | apply IsS59.alloc | apply IsS59.drewN | apply IsS59.drew | apply IsS59.set_0 | apply IsS59.set_1 | apply IsS59.set_2) | exact HI184.out)⟩, ⟨by repeat (first | (with_reducible first | exact HB.out | apply below_alloc | apply pw_below_drewN | apply below_drew1 | refine below_set ?_ (IsS59.ge HI184.out)) | exact HB.out)⟩⟩
                          · rw [if_neg c48] at H
                            have c48b0 : ((a0.extract (t186 : Int).toNat (t223 : Int).toNat).toList == x10_8.toList) = false := beq_eq_false_iff_ne.mpr c48
                            have c48b1 : ((a0.extract (t186 : Int).toNat (t223 : Int).toNat).toList != x10_8.toList) = true := bne_iff_ne.mpr c48
                            obtain rfl := Option.some.inj H
                            go_wp2_with (first | ((with_reducible refine gate_callee (f := 23) rfl ?_); refine goesL_ (some 72) rfl rfl Try.func23 (by kernel_rfl) rfl #[.pointer (some ⟨g184, 0, none⟩)] rfl (by (try simp only [List.map_toArray, List.map_cons, List.map_nil]); first | done | rfl | (simp only [List.length_drop, List.length_take]; rfl)) ?_; (with_reducible refine (cursor_Cursor_Fault.calls g184 x185000_8 x185001_8 x185002_8 t218 t219 t220 t221 t222 w _ ?side1 ?side2 A36.out).mono ?_); (case side1 => repeat (first | (with_reducible first | exact HI184.out | apply IsS59.alloc | apply IsS59.drewN | apply IsS59.drew | apply IsS59.set_0 | apply IsS59.set_1 | apply IsS59.set_2) | exact HI184.out)); (case side2 => repeat (first | (with_reducible first | exact HB.out | apply below_alloc | apply pw_below_drewN | apply below_drew1 | refine below_set ?_ (IsS59.ge HI184.out)) | exact HB.out)); rintro e w51 ⟨rfl, hi, hb, hk⟩; refine ⟨_, rfl, ?_⟩; have n0_ := Aside0.mk (hb); have n1_ := Aside0.mk (hi); clear HB; clear HI184; have HB := n0_; have HI184 := n1_; clear n0_ n1_; (try clear hb); (try clear hb2); (try clear hk); (try clear hi)) | ((with_reducible refine gate_callee (f := 22) rfl ?_); refine goesL_ (some 76) rfl rfl Try.func22 (by kernel_rfl) rfl #[.pointer (some ⟨g184, 0, none⟩)] rfl (by (try simp only [List.map_toArray, List.map_cons, List.map_nil]); first | done | rfl | (simp only [List.length_drop, List.length_take]; rfl)) ?_; (with_reducible refine (cursor_Cursor_At.calls g184 t220 t221 t222 t223 t224 t225 t226 w _ ?side1 ?side2 A37.out).mono ?_); (case side1 => repeat (first | (with_reducible first | exact HI184.out | apply IsS59.alloc | apply IsS59.drewN | apply IsS59.drew | apply IsS59.set_0 | apply IsS59.set_1 | apply IsS59.set_2) | exact HI184.out)); (case side2 => repeat (first | (with_reducible first | exact HB.out | apply below_alloc | apply pw_below_drewN | apply below_drew1 | refine below_set ?_ (IsS59.ge HI184.out)) | exact HB.out)); rintro e w52 ⟨rfl, hi, hb, hk⟩; refine ⟨_, rfl, ?_⟩; have n0_ := Aside0.mk (hb); have n1_ := Aside0.mk (hi); clear HB; clear HI184; have HB := n0_; have HI184 := n1_; clear n0_ n1_; (try clear hb); (try clear hb2); (try clear hk); (try clear hi)))
                            go_ret
                            exact ⟨by first | rfl | (simp [errW_none, errW_some] <;> rfl) | (simp [*, errW_none, errW_some] <;> rfl), by repeat (first | (with_reducible first | exact HB.out | apply below_alloc | apply pw_below_drewN | apply below_drew1 | refine below_set ?_ (IsS59.ge HI184.out)) | exact HB.out)⟩
                        · rw [if_neg c47] at H
                          exact absurd H (by simp)
                      · rw [if_neg c46] at H
                        exact absurd H (by simp)
                    · rw [if_neg c45] at H
                      exact absurd H (by simp)
              · rw [if_neg c38] at H
                have c38b0 : (t218 == 0) = false := beq_eq_false_iff_ne.mpr c38
                have c38b1 : (t218 != 0) = true := bne_iff_ne.mpr c38
                have HC53 := Aside0.mk H
                clear H
                go_upto_region 25 with (first | ((with_reducible refine gate_callee (f := 23) rfl ?_); refine goesL_ (some 72) rfl rfl Try.func23 (by kernel_rfl) rfl #[.pointer (some ⟨g184, 0, none⟩)] rfl (by (try simp only [List.map_toArray, List.map_cons, List.map_nil]); first | done | rfl | (simp only [List.length_drop, List.length_take]; rfl)) ?_; (with_reducible refine (cursor_Cursor_Fault.calls g184 x185000_8 x185001_8 x185002_8 t218 t219 t220 t221 t222 w _ ?side1 ?side2 A36.out).mono ?_); (case side1 => repeat (first | (with_reducible first | exact HI184.out | apply IsS59.alloc | apply IsS59.drewN | apply IsS59.drew | apply IsS59.set_0 | apply IsS59.set_1 | apply IsS59.set_2) | exact HI184.out)); (case side2 => repeat (first | (with_reducible first | exact HB.out | apply below_alloc | apply pw_below_drewN | apply below_drew1 | refine below_set ?_ (IsS59.ge HI184.out)) | exact HB.out)); rintro e w54 ⟨rfl, hi, hb, hk⟩; refine ⟨_, rfl, ?_⟩; have n0_ := Aside0.mk (hb); have n1_ := Aside0.mk (hi); clear HB; clear HI184; have HB := n0_; have HI184 := n1_; clear n0_ n1_; (try clear hb); (try clear hb2); (try clear hk); (try clear hi)) | ((with_reducible refine gate_callee (f := 22) rfl ?_); refine goesL_ (some 76) rfl rfl Try.func22 (by kernel_rfl) rfl #[.pointer (some ⟨g184, 0, none⟩)] rfl (by (try simp only [List.map_toArray, List.map_cons, List.map_nil]); first | done | rfl | (simp only [List.length_drop, List.length_take]; rfl)) ?_; (with_reducible refine (cursor_Cursor_At.calls g184 t220 t221 t222 t223 t224 t225 t226 w _ ?side1 ?side2 A37.out).mono ?_); (case side1 => repeat (first | (with_reducible first | exact HI184.out | apply IsS59.alloc | apply IsS59.drewN | apply IsS59.drew | apply IsS59.set_0 | apply IsS59.set_1 | apply IsS59.set_2) | exact HI184.out)); (case side2 => repeat (first | (with_reducible first | exact HB.out | apply below_alloc | apply pw_below_drewN | apply below_drew1 | refine below_set ?_ (IsS59.ge HI184.out)) | exact HB.out)); rintro e w55 ⟨rfl, hi, hb, hk⟩; refine ⟨_, rfl, ?_⟩; have n0_ := Aside0.mk (hb); have n1_ := Aside0.mk (hi); clear HB; clear HI184; have HB := n0_; have HI184 := n1_; clear n0_ n1_; (try clear hb); (try clear hb2); (try clear hk); (try clear hi)))
                (try simp only [Act.put, List.setIfInBounds_toArray, List.set_cons_zero, List.set_cons_succ])
                go_cut [95] (fun v95 wc => ∃ (kq : Nat) (x95_52 : Bool), v95 = .bool x95_52 ∧ Aside0 (quipulaw11_CursorOnce.j2 kq a0 l1 x6_1 x95_52 t224 t225 t226 = some r) ∧ Aside0 (kq ≤ kj8) ∧ Aside0 (IsS59 w wc g184 t224 t225 t226) ∧ Aside0 (Below w.heap.size w wc))
                case first =>
                  have H := HC53.out
                  clear HC53
                  by_cases c56 : t223 = t186
                  · rw [if_pos c56] at H
                    have c56b0 : (t223 == t186) = true := beq_iff_eq.mpr c56
                    have c56b1 : (t223 != t186) = false := bne_eq_false_iff_eq.mpr c56
                    clear c56
                    (first | rw [c56b0] | (simp only [i64_w, i32_w]; rw [c56b0]) | skip)
                    by_cases c57 : t219 = t186
                    · rw [if_pos c57] at H
                      have c57b0 : (t219 == t186) = true := beq_iff_eq.mpr c57
                      have c57b1 : (t219 != t186) = false := bne_eq_false_iff_eq.mpr c57
                      clear c57
                      by_cases c58 : t190 = 0
                      · rw [if_pos c58] at H
                        have c58b0 : (t190 == 0) = true := beq_iff_eq.mpr c58
                        have c58b1 : (t190 != 0) = false := bne_eq_false_iff_eq.mpr c58
                        clear c58
                        have H' := Aside0.mk H
                        clear H
                        go_wp2
                        go_meet
                        case rel => exact ⟨_, (false), (by first | rfl | (simp; done) | (simp [*]; done)), H', ⟨by have := HK1.out; have := HJ8.out; first | omega | exact Nat.le_refl _⟩, ⟨by repeat (first | (with_reducible first | exact HI184.out | apply IsS59.alloc | apply IsS59.drewN | apply IsS59.drew | apply IsS59.set_0 | apply IsS59.set_1 | apply IsS59.set_2) | exact HI184.out)⟩, ⟨by repeat (first | (with_reducible first | exact HB.out | apply below_alloc | apply pw_below_drewN | apply below_drew1 | refine below_set ?_ (IsS59.ge HI184.out)) | exact HB.out)⟩⟩
                      · rw [if_neg c58] at H
                        have c58b0 : (t190 == 0) = false := beq_eq_false_iff_ne.mpr c58
                        have c58b1 : (t190 != 0) = true := bne_iff_ne.mpr c58
                        have H' := Aside0.mk H
                        clear H
                        go_wp2
                        go_meet
                        case rel => exact ⟨_, ((t190 != t218)), (by first | rfl | (simp; done) | (simp [*]; done)), H', ⟨by have := HK1.out; have := HJ8.out; first | omega | exact Nat.le_refl _⟩, ⟨by repeat (first | (with_reducible first | exact HI184.out | apply IsS59.alloc | apply IsS59.drewN | apply IsS59.drew | apply IsS59.set_0 | apply IsS59.set_1 | apply IsS59.set_2) | exact HI184.out)⟩, ⟨by repeat (first | (with_reducible first | exact HB.out | apply below_alloc | apply pw_below_drewN | apply below_drew1 | refine below_set ?_ (IsS59.ge HI184.out)) | exact HB.out)⟩⟩
                    · rw [if_neg c57] at H
                      have c57b0 : (t219 == t186) = false := beq_eq_false_iff_ne.mpr c57
                      have c57b1 : (t219 != t186) = true := bne_iff_ne.mpr c57
                      have H' := Aside0.mk H
                      clear H
                      go_wp2
                      go_meet
                      case rel => exact ⟨_, (true), (by first | rfl | (simp; done) | (simp [*]; done)), H', ⟨by have := HK1.out; have := HJ8.out; first | omega | exact Nat.le_refl _⟩, ⟨by repeat (first | (with_reducible first | exact HI184.out | apply IsS59.alloc | apply IsS59.drewN | apply IsS59.drew | apply IsS59.set_0 | apply IsS59.set_1 | apply IsS59.set_2) | exact HI184.out)⟩, ⟨by repeat (first | (with_reducible first | exact HB.out | apply below_alloc | apply pw_below_drewN | apply below_drew1 | refine below_set ?_ (IsS59.ge HI184.out)) | exact HB.out)⟩⟩
                  · rw [if_neg c56] at H
                    have c56b0 : (t223 == t186) = false := beq_eq_false_iff_ne.mpr c56
                    have c56b1 : (t223 != t186) = true := bne_iff_ne.mpr c56
                    (first | rw [c56b0] | (simp only [i64_w, i32_w]; rw [c56b0]) | skip)
                    have H' := Aside0.mk H
                    clear H
                    go_wp2
                    go_meet
                    case rel => exact ⟨_, (true), (by first | rfl | (simp; done) | (simp [*]; done)), H', ⟨by have := HK1.out; have := HJ8.out; first | omega | exact Nat.le_refl _⟩, ⟨by repeat (first | (with_reducible first | exact HI184.out | apply IsS59.alloc | apply IsS59.drewN | apply IsS59.drew | apply IsS59.set_0 | apply IsS59.set_1 | apply IsS59.set_2) | exact HI184.out)⟩, ⟨by repeat (first | (with_reducible first | exact HB.out | apply below_alloc | apply pw_below_drewN | apply below_drew1 | refine below_set ?_ (IsS59.ge HI184.out)) | exact HB.out)⟩⟩
                case rest =>
                  clear HC53
                  try clear c1
                  try clear p1
                  try clear q1
                  try clear hx1
                  try clear c2
                  try clear p2
                  try clear q2
                  try clear hx2
                  try clear c3
                  try clear c4
                  try clear c5
                  try clear c5b0
                  try clear c6
                  try clear p6
                  try clear c8
                  try clear c8b0
                  try clear c12
                  try clear c12b0
                  try clear c12b1
                  try clear c15
                  try clear c17
                  try clear c17b0
                  try clear c17b1
                  try clear c19
                  try clear p19
                  try clear q19
                  try clear hx19
                  try clear c20
                  try clear c21
                  try clear p21
                  try clear q21
                  try clear hx21
                  try clear c22
                  try clear c22b0
                  try clear c22b1
                  try clear c23
                  try clear c24
                  try clear c25
                  try clear c26
                  try clear c27
                  try clear c27b0
                  try clear c27b1
                  try clear c31
                  try clear c31b0
                  try clear c31b1
                  try clear c38
                  try clear c38b0
                  try clear c38b1
                  try clear c39
                  try clear c39b0
                  try clear c42
                  try clear c42b0
                  try clear c45
                  try clear c45b0
                  try clear c45b1
                  try clear c46
                  try clear c46b0
                  try clear c46b1
                  try clear c47
                  try clear c47b0
                  try clear c47b1
                  try clear c48
                  try clear c48b0
                  try clear c48b1
                  try clear c56
                  try clear c56b0
                  try clear c56b1
                  try clear c57
                  try clear c57b0
                  try clear c57b1
                  try clear c58
                  try clear c58b0
                  try clear c58b1
                  try clear hx195_0
                  try clear hx195_1
                  try clear hx211_0
                  try clear hx211_1
                  try clear p1
                  try clear p19
                  try clear p195
                  try clear p2
                  try clear p21
                  try clear p211
                  try clear q1
                  try clear q19
                  try clear q195
                  try clear q2
                  try clear q21
                  try clear q211
                  obtain ⟨kq, x95_52, rfl, HA, HJ52, HI184, HB⟩ := hcut
                  cases kq with
                  | zero => exact absurd HA.out (by simp [quipulaw11_CursorOnce.j2])
                  | succ kj52 =>
                    have H := HA.out
                    clear HA
                    simp only [quipulaw11_CursorOnce.j2] at H
                    by_cases c59 : x95_52 = true
                    · subst c59
                      have H1 : (some false) = some r := by rw [if_pos rfl] at H; exact H
                      clear H
                      have H := H1
                      clear H1
                      obtain rfl := Option.some.inj H
                      go_wp2
                      go_ret
                      exact ⟨by first | rfl | (simp [errW_none, errW_some] <;> rfl) | (simp [*, errW_none, errW_some] <;> rfl), by repeat (first | (with_reducible first | exact HB.out | apply below_alloc | apply pw_below_drewN | apply below_drew1 | refine below_set ?_ (IsS59.ge HI184.out)) | exact HB.out)⟩
                    · replace c59 := Bool.eq_false_iff.mpr c59
                      subst c59
                      have H1 : (quipulaw11_CursorOnce.l0 kj52 a0 l1 (wrap64 (x6_1 + 1)) t224 t225 t226) = some r := by rw [if_neg (show ¬ (false = true) by decide)] at H; exact H
                      clear H
                      have H := H1
                      clear H1
                      have H' := Aside0.mk H
                      clear H
                      go_wp2
                      go_roundg kj52
                      case measure => have := HK1.out; have := HJ8.out; have := HJ52.out; omega
                      case rel => exact ⟨(wrap64 (x6_1 + 1)), (t224), (t225), (t226), (by first | rfl | (simp; done) | (simp [*]; done)), H', ⟨by have := HK1.out; have := HJ8.out; have := HJ52.out; omega⟩, ⟨by repeat (first | (with_reducible first | exact HI184.out | apply IsS59.alloc | apply IsS59.drewN | apply IsS59.drew | apply IsS59.set_0 | apply IsS59.set_1 | apply IsS59.set_2) | exact HI184.out)⟩, ⟨by repeat (first | (with_reducible first | exact HB.out | apply below_alloc | apply pw_below_drewN | apply below_drew1 | refine below_set ?_ (IsS59.ge HI184.out)) | exact HB.out)⟩⟩
        · rw [if_neg c8] at H
          exact absurd H (by simp)
      · rw [if_neg c5] at H
        have c5b0 : decide (x6_1 < (l1.length : Int)) = false := decide_eq_false c5
        clear c5
        replace H := Option.bind_eq_some_iff.mp H
        obtain ⟨t185, A600, H⟩ := H
        replace H : (some t185) = some r := H
        have A60 := Aside0.mk A600
        clear A600
        obtain rfl := Option.some.inj H
        go_wp2_with (first | ((with_reducible refine gate_callee (f := 14) rfl ?_); refine goesL_ (some 113) rfl rfl Try.func14 (by kernel_rfl) rfl #[] rfl (by (try simp only [List.map_toArray, List.map_cons, List.map_nil]); first | done | rfl | (simp only [List.length_drop, List.length_take]; rfl)) ?_; (with_reducible refine (quipulaw11_fixed.calls k1  t185 _ A60.out).mono ?_); rintro e w61 ⟨rfl, hb⟩; refine ⟨_, rfl, ?_⟩; have n0_ := Aside0.mk (IsS59.below (by repeat (first | (with_reducible first | exact HI184.out | apply IsS59.alloc | apply IsS59.drewN | apply IsS59.drew | apply IsS59.set_0 | apply IsS59.set_1 | apply IsS59.set_2) | exact HI184.out)) hb); have n1_ := Aside0.mk (below_step (by repeat (first | (with_reducible first | exact HB.out | apply below_alloc | apply pw_below_drewN | apply below_drew1 | refine below_set ?_ (IsS59.ge HI184.out)) | exact HB.out)) hb); clear HI184; clear HB; have HI184 := n0_; have HB := n1_; clear n0_ n1_; (try clear hb); (try clear hb2); (try clear hk); (try clear hi)))
        go_ret
        exact ⟨by first | rfl | (simp [errW_none, errW_some] <;> rfl) | (simp [*, errW_none, errW_some] <;> rfl), by repeat (first | (with_reducible first | exact HB.out | apply below_alloc | apply pw_below_drewN | apply below_drew1 | refine below_set ?_ (IsS59.ge HI184.out)) | exact HB.out)⟩

end Go.Proofs.Ytfhlnmgaammofaa.Q
