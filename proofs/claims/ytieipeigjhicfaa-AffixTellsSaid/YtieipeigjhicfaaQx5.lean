-- printed by a program of this session (wip/tools/print2.sh) after the kit's print
import Derived.Test.YtieipeigjhicfaaQx0
import Derived.Test.YtieipeigjhicfaaQx4
namespace Go.Proofs.Ytieipeigjhicfaa.Q
open Go.RowKit Go.Proofs.YtieipeigjhicfaaW.PrintWords Go.Proofs.YtieipeigjhicfaaW.PrintLast Go.Proofs.YtieipeigjhicfaaW.PrintMore
attribute [local go_sem] max2_int min2_int max_two min_two max_three min_three max_four min_four   -- for this text's walks alone
set_option linter.unusedVariables false
set_option linter.unusedSimpArgs false

/-! ### quipuref11_Rune: function 53 -/
mutual
def quipuref11_Rune.j0 : Nat → ByteArray → Int → Bool → Option (Int)
  | 0, _, _, _ => none
  | k + 1, x0, x1, x16 => if x16 = true then (some 0) else (if 0 ≤ x1 then (if x1 < (x0.size : Int) then ((quipuref11_within.f x0 (wrap64 (x1 + 1)) 128 191).bind fun t131 => ((quipuref11_within.f x0 (wrap64 (x1 + 2)) 128 191).bind fun t132 => ((quipuref11_within.f x0 (wrap64 (x1 + 3)) 128 191).bind fun t133 => (if (wrap64 (bt x0 x1)) < 128 then (some 1) else (if (wrap64 (bt x0 x1)) ≥ 194 then (if (wrap64 (bt x0 x1)) ≤ 223 then (quipuref11_Rune.j1 k x0 x1 (wrap64 (bt x0 x1)) t131 t132 t133 t131) else (quipuref11_Rune.j1 k x0 x1 (wrap64 (bt x0 x1)) t131 t132 t133 false)) else (quipuref11_Rune.j1 k x0 x1 (wrap64 (bt x0 x1)) t131 t132 t133 false)))))) else (none)) else (none))
def quipuref11_Rune.j1 : Nat → ByteArray → Int → Int → Bool → Bool → Bool → Bool → Option (Int)
  | 0, _, _, _, _, _, _, _ => none
  | k + 1, x0, x1, x5, x6, x7, x8, x36 => if x36 = true then (some 2) else (if x5 = 224 then ((quipuref11_within.f x0 (wrap64 (x1 + 1)) 160 191).bind fun t134 => (if t134 = true then (quipuref11_Rune.j2 k x0 x1 x5 x6 x7 x8 x7) else (quipuref11_Rune.j2 k x0 x1 x5 x6 x7 x8 false))) else (quipuref11_Rune.j2 k x0 x1 x5 x6 x7 x8 false))
def quipuref11_Rune.j2 : Nat → ByteArray → Int → Int → Bool → Bool → Bool → Bool → Option (Int)
  | 0, _, _, _, _, _, _, _ => none
  | k + 1, x0, x1, x5, x6, x7, x8, x46 => if x46 = true then (some 3) else (if x5 ≥ 225 then (if x5 ≤ 236 then (if x6 = true then (quipuref11_Rune.j3 k x0 x1 x5 x6 x7 x8 x7) else (quipuref11_Rune.j3 k x0 x1 x5 x6 x7 x8 false)) else (quipuref11_Rune.j3 k x0 x1 x5 x6 x7 x8 false)) else (quipuref11_Rune.j3 k x0 x1 x5 x6 x7 x8 false))
def quipuref11_Rune.j3 : Nat → ByteArray → Int → Int → Bool → Bool → Bool → Bool → Option (Int)
  | 0, _, _, _, _, _, _, _ => none
  | k + 1, x0, x1, x5, x6, x7, x8, x58 => if x58 = true then (quipuref11_Rune.j4 k x0 x1 x5 x6 x7 x8 x58) else (if x5 = 238 then (if x6 = true then (quipuref11_Rune.j4 k x0 x1 x5 x6 x7 x8 x7) else (quipuref11_Rune.j4 k x0 x1 x5 x6 x7 x8 false)) else (if x5 = 239 then (if x6 = true then (quipuref11_Rune.j4 k x0 x1 x5 x6 x7 x8 x7) else (quipuref11_Rune.j4 k x0 x1 x5 x6 x7 x8 false)) else (quipuref11_Rune.j4 k x0 x1 x5 x6 x7 x8 false)))
def quipuref11_Rune.j4 : Nat → ByteArray → Int → Int → Bool → Bool → Bool → Bool → Option (Int)
  | 0, _, _, _, _, _, _, _ => none
  | k + 1, x0, x1, x5, x6, x7, x8, x58 => if x58 = true then (some 3) else (if x5 = 237 then ((quipuref11_within.f x0 (wrap64 (x1 + 1)) 128 159).bind fun t135 => (if t135 = true then (quipuref11_Rune.j5 k x0 x1 x5 x6 x7 x8 x7) else (quipuref11_Rune.j5 k x0 x1 x5 x6 x7 x8 false))) else (quipuref11_Rune.j5 k x0 x1 x5 x6 x7 x8 false))
def quipuref11_Rune.j5 : Nat → ByteArray → Int → Int → Bool → Bool → Bool → Bool → Option (Int)
  | 0, _, _, _, _, _, _, _ => none
  | k + 1, x0, x1, x5, x6, x7, x8, x83 => if x83 = true then (some 3) else (if x5 = 240 then ((quipuref11_within.f x0 (wrap64 (x1 + 1)) 144 191).bind fun t136 => (if t136 = true then (if x7 = true then (quipuref11_Rune.j6 k x0 x1 x5 x6 x7 x8 x8) else (quipuref11_Rune.j6 k x0 x1 x5 x6 x7 x8 false)) else (quipuref11_Rune.j6 k x0 x1 x5 x6 x7 x8 false))) else (quipuref11_Rune.j6 k x0 x1 x5 x6 x7 x8 false))
def quipuref11_Rune.j6 : Nat → ByteArray → Int → Int → Bool → Bool → Bool → Bool → Option (Int)
  | 0, _, _, _, _, _, _, _ => none
  | k + 1, x0, x1, x5, x6, x7, x8, x95 => if x95 = true then (some 4) else (if x5 ≥ 241 then (if x5 ≤ 243 then (if x6 = true then (if x7 = true then (quipuref11_Rune.j7 k x0 x1 x5 x7 x8 x8) else (quipuref11_Rune.j7 k x0 x1 x5 x7 x8 false)) else (quipuref11_Rune.j7 k x0 x1 x5 x7 x8 false)) else (quipuref11_Rune.j7 k x0 x1 x5 x7 x8 false)) else (quipuref11_Rune.j7 k x0 x1 x5 x7 x8 false))
def quipuref11_Rune.j7 : Nat → ByteArray → Int → Int → Bool → Bool → Bool → Option (Int)
  | 0, _, _, _, _, _, _ => none
  | k + 1, x0, x1, x5, x7, x8, x110 => if x110 = true then (some 4) else (if x5 = 244 then ((quipuref11_within.f x0 (wrap64 (x1 + 1)) 128 143).bind fun t137 => (if t137 = true then (if x7 = true then (if x8 = true then (some 4) else (some 0)) else (some 0)) else (some 0))) else (some 0))
end
def quipuref11_Rune.f (k : Nat) (a0 : ByteArray) (a1 : Int) : Option (Int) := if a1 < 0 then (quipuref11_Rune.j0 k a0 a1 true) else (quipuref11_Rune.j0 k a0 a1 (decide (a1 ≥ (a0.size : Int))))
theorem quipuref11_Rune.mono_l : ∀ k, (∀ y0 y1 y2, LeO (quipuref11_Rune.j0 k y0 y1 y2) (quipuref11_Rune.j0 (k + 1) y0 y1 y2)) ∧ (∀ y0 y1 y2 y3 y4 y5 y6, LeO (quipuref11_Rune.j1 k y0 y1 y2 y3 y4 y5 y6) (quipuref11_Rune.j1 (k + 1) y0 y1 y2 y3 y4 y5 y6)) ∧ (∀ y0 y1 y2 y3 y4 y5 y6, LeO (quipuref11_Rune.j2 k y0 y1 y2 y3 y4 y5 y6) (quipuref11_Rune.j2 (k + 1) y0 y1 y2 y3 y4 y5 y6)) ∧ (∀ y0 y1 y2 y3 y4 y5 y6, LeO (quipuref11_Rune.j3 k y0 y1 y2 y3 y4 y5 y6) (quipuref11_Rune.j3 (k + 1) y0 y1 y2 y3 y4 y5 y6)) ∧ (∀ y0 y1 y2 y3 y4 y5 y6, LeO (quipuref11_Rune.j4 k y0 y1 y2 y3 y4 y5 y6) (quipuref11_Rune.j4 (k + 1) y0 y1 y2 y3 y4 y5 y6)) ∧ (∀ y0 y1 y2 y3 y4 y5 y6, LeO (quipuref11_Rune.j5 k y0 y1 y2 y3 y4 y5 y6) (quipuref11_Rune.j5 (k + 1) y0 y1 y2 y3 y4 y5 y6)) ∧ (∀ y0 y1 y2 y3 y4 y5 y6, LeO (quipuref11_Rune.j6 k y0 y1 y2 y3 y4 y5 y6) (quipuref11_Rune.j6 (k + 1) y0 y1 y2 y3 y4 y5 y6)) ∧ (∀ y0 y1 y2 y3 y4 y5, LeO (quipuref11_Rune.j7 k y0 y1 y2 y3 y4 y5) (quipuref11_Rune.j7 (k + 1) y0 y1 y2 y3 y4 y5))
  | 0 => ⟨fun _ _ _ r h => by simp [quipuref11_Rune.j0] at h, fun _ _ _ _ _ _ _ r h => by simp [quipuref11_Rune.j1] at h, fun _ _ _ _ _ _ _ r h => by simp [quipuref11_Rune.j2] at h, fun _ _ _ _ _ _ _ r h => by simp [quipuref11_Rune.j3] at h, fun _ _ _ _ _ _ _ r h => by simp [quipuref11_Rune.j4] at h, fun _ _ _ _ _ _ _ r h => by simp [quipuref11_Rune.j5] at h, fun _ _ _ _ _ _ _ r h => by simp [quipuref11_Rune.j6] at h, fun _ _ _ _ _ _ r h => by simp [quipuref11_Rune.j7] at h⟩
  | k + 1 => by
    obtain ⟨ih0, ih1, ih2, ih3, ih4, ih5, ih6, ih7⟩ := quipuref11_Rune.mono_l k
    refine ⟨?_, ?_, ?_, ?_, ?_, ?_, ?_, ?_⟩
    · intro y0 y1 y2
      unfold quipuref11_Rune.j0
      repeat' first
      | (with_reducible exact ih0 _ _ _)
      | (with_reducible exact ih1 _ _ _ _ _ _ _)
      | (with_reducible exact ih2 _ _ _ _ _ _ _)
      | (with_reducible exact ih3 _ _ _ _ _ _ _)
      | (with_reducible exact ih4 _ _ _ _ _ _ _)
      | (with_reducible exact ih5 _ _ _ _ _ _ _)
      | (with_reducible exact ih6 _ _ _ _ _ _ _)
      | (with_reducible exact ih7 _ _ _ _ _ _)
      | (with_reducible exact LeO.refl _)
      | (with_reducible exact LeO.none _)
      | (with_reducible refine LeO.ite ?_ ?_)
      | (with_reducible refine LeO.bind ?_ (fun _ => ?_))
      | exact ih0 _ _ _
      | exact ih1 _ _ _ _ _ _ _
      | exact ih2 _ _ _ _ _ _ _
      | exact ih3 _ _ _ _ _ _ _
      | exact ih4 _ _ _ _ _ _ _
      | exact ih5 _ _ _ _ _ _ _
      | exact ih6 _ _ _ _ _ _ _
      | exact ih7 _ _ _ _ _ _
      | exact LeO.none _
      | refine LeO.ite ?_ ?_
      | refine LeO.bind ?_ (fun _ => ?_)
    · intro y0 y1 y2 y3 y4 y5 y6
      unfold quipuref11_Rune.j1
      repeat' first
      | (with_reducible exact ih0 _ _ _)
      | (with_reducible exact ih1 _ _ _ _ _ _ _)
      | (with_reducible exact ih2 _ _ _ _ _ _ _)
      | (with_reducible exact ih3 _ _ _ _ _ _ _)
      | (with_reducible exact ih4 _ _ _ _ _ _ _)
      | (with_reducible exact ih5 _ _ _ _ _ _ _)
      | (with_reducible exact ih6 _ _ _ _ _ _ _)
      | (with_reducible exact ih7 _ _ _ _ _ _)
      | (with_reducible exact LeO.refl _)
      | (with_reducible exact LeO.none _)
      | (with_reducible refine LeO.ite ?_ ?_)
      | (with_reducible refine LeO.bind ?_ (fun _ => ?_))
      | exact ih0 _ _ _
      | exact ih1 _ _ _ _ _ _ _
      | exact ih2 _ _ _ _ _ _ _
      | exact ih3 _ _ _ _ _ _ _
      | exact ih4 _ _ _ _ _ _ _
      | exact ih5 _ _ _ _ _ _ _
      | exact ih6 _ _ _ _ _ _ _
      | exact ih7 _ _ _ _ _ _
      | exact LeO.none _
      | refine LeO.ite ?_ ?_
      | refine LeO.bind ?_ (fun _ => ?_)
    · intro y0 y1 y2 y3 y4 y5 y6
      unfold quipuref11_Rune.j2
      repeat' first
      | (with_reducible exact ih0 _ _ _)
      | (with_reducible exact ih1 _ _ _ _ _ _ _)
      | (with_reducible exact ih2 _ _ _ _ _ _ _)
      | (with_reducible exact ih3 _ _ _ _ _ _ _)
      | (with_reducible exact ih4 _ _ _ _ _ _ _)
      | (with_reducible exact ih5 _ _ _ _ _ _ _)
      | (with_reducible exact ih6 _ _ _ _ _ _ _)
      | (with_reducible exact ih7 _ _ _ _ _ _)
      | (with_reducible exact LeO.refl _)
      | (with_reducible exact LeO.none _)
      | (with_reducible refine LeO.ite ?_ ?_)
      | (with_reducible refine LeO.bind ?_ (fun _ => ?_))
      | exact ih0 _ _ _
      | exact ih1 _ _ _ _ _ _ _
      | exact ih2 _ _ _ _ _ _ _
      | exact ih3 _ _ _ _ _ _ _
      | exact ih4 _ _ _ _ _ _ _
      | exact ih5 _ _ _ _ _ _ _
      | exact ih6 _ _ _ _ _ _ _
      | exact ih7 _ _ _ _ _ _
      | exact LeO.none _
      | refine LeO.ite ?_ ?_
      | refine LeO.bind ?_ (fun _ => ?_)
    · intro y0 y1 y2 y3 y4 y5 y6
      unfold quipuref11_Rune.j3
      repeat' first
      | (with_reducible exact ih0 _ _ _)
      | (with_reducible exact ih1 _ _ _ _ _ _ _)
      | (with_reducible exact ih2 _ _ _ _ _ _ _)
      | (with_reducible exact ih3 _ _ _ _ _ _ _)
      | (with_reducible exact ih4 _ _ _ _ _ _ _)
      | (with_reducible exact ih5 _ _ _ _ _ _ _)
      | (with_reducible exact ih6 _ _ _ _ _ _ _)
      | (with_reducible exact ih7 _ _ _ _ _ _)
      | (with_reducible exact LeO.refl _)
      | (with_reducible exact LeO.none _)
      | (with_reducible refine LeO.ite ?_ ?_)
      | (with_reducible refine LeO.bind ?_ (fun _ => ?_))
      | exact ih0 _ _ _
      | exact ih1 _ _ _ _ _ _ _
      | exact ih2 _ _ _ _ _ _ _
      | exact ih3 _ _ _ _ _ _ _
      | exact ih4 _ _ _ _ _ _ _
      | exact ih5 _ _ _ _ _ _ _
      | exact ih6 _ _ _ _ _ _ _
      | exact ih7 _ _ _ _ _ _
      | exact LeO.none _
      | refine LeO.ite ?_ ?_
      | refine LeO.bind ?_ (fun _ => ?_)
    · intro y0 y1 y2 y3 y4 y5 y6
      unfold quipuref11_Rune.j4
      repeat' first
      | (with_reducible exact ih0 _ _ _)
      | (with_reducible exact ih1 _ _ _ _ _ _ _)
      | (with_reducible exact ih2 _ _ _ _ _ _ _)
      | (with_reducible exact ih3 _ _ _ _ _ _ _)
      | (with_reducible exact ih4 _ _ _ _ _ _ _)
      | (with_reducible exact ih5 _ _ _ _ _ _ _)
      | (with_reducible exact ih6 _ _ _ _ _ _ _)
      | (with_reducible exact ih7 _ _ _ _ _ _)
      | (with_reducible exact LeO.refl _)
      | (with_reducible exact LeO.none _)
      | (with_reducible refine LeO.ite ?_ ?_)
      | (with_reducible refine LeO.bind ?_ (fun _ => ?_))
      | exact ih0 _ _ _
      | exact ih1 _ _ _ _ _ _ _
      | exact ih2 _ _ _ _ _ _ _
      | exact ih3 _ _ _ _ _ _ _
      | exact ih4 _ _ _ _ _ _ _
      | exact ih5 _ _ _ _ _ _ _
      | exact ih6 _ _ _ _ _ _ _
      | exact ih7 _ _ _ _ _ _
      | exact LeO.none _
      | refine LeO.ite ?_ ?_
      | refine LeO.bind ?_ (fun _ => ?_)
    · intro y0 y1 y2 y3 y4 y5 y6
      unfold quipuref11_Rune.j5
      repeat' first
      | (with_reducible exact ih0 _ _ _)
      | (with_reducible exact ih1 _ _ _ _ _ _ _)
      | (with_reducible exact ih2 _ _ _ _ _ _ _)
      | (with_reducible exact ih3 _ _ _ _ _ _ _)
      | (with_reducible exact ih4 _ _ _ _ _ _ _)
      | (with_reducible exact ih5 _ _ _ _ _ _ _)
      | (with_reducible exact ih6 _ _ _ _ _ _ _)
      | (with_reducible exact ih7 _ _ _ _ _ _)
      | (with_reducible exact LeO.refl _)
      | (with_reducible exact LeO.none _)
      | (with_reducible refine LeO.ite ?_ ?_)
      | (with_reducible refine LeO.bind ?_ (fun _ => ?_))
      | exact ih0 _ _ _
      | exact ih1 _ _ _ _ _ _ _
      | exact ih2 _ _ _ _ _ _ _
      | exact ih3 _ _ _ _ _ _ _
      | exact ih4 _ _ _ _ _ _ _
      | exact ih5 _ _ _ _ _ _ _
      | exact ih6 _ _ _ _ _ _ _
      | exact ih7 _ _ _ _ _ _
      | exact LeO.none _
      | refine LeO.ite ?_ ?_
      | refine LeO.bind ?_ (fun _ => ?_)
    · intro y0 y1 y2 y3 y4 y5 y6
      unfold quipuref11_Rune.j6
      repeat' first
      | (with_reducible exact ih0 _ _ _)
      | (with_reducible exact ih1 _ _ _ _ _ _ _)
      | (with_reducible exact ih2 _ _ _ _ _ _ _)
      | (with_reducible exact ih3 _ _ _ _ _ _ _)
      | (with_reducible exact ih4 _ _ _ _ _ _ _)
      | (with_reducible exact ih5 _ _ _ _ _ _ _)
      | (with_reducible exact ih6 _ _ _ _ _ _ _)
      | (with_reducible exact ih7 _ _ _ _ _ _)
      | (with_reducible exact LeO.refl _)
      | (with_reducible exact LeO.none _)
      | (with_reducible refine LeO.ite ?_ ?_)
      | (with_reducible refine LeO.bind ?_ (fun _ => ?_))
      | exact ih0 _ _ _
      | exact ih1 _ _ _ _ _ _ _
      | exact ih2 _ _ _ _ _ _ _
      | exact ih3 _ _ _ _ _ _ _
      | exact ih4 _ _ _ _ _ _ _
      | exact ih5 _ _ _ _ _ _ _
      | exact ih6 _ _ _ _ _ _ _
      | exact ih7 _ _ _ _ _ _
      | exact LeO.none _
      | refine LeO.ite ?_ ?_
      | refine LeO.bind ?_ (fun _ => ?_)
    · intro y0 y1 y2 y3 y4 y5
      unfold quipuref11_Rune.j7
      repeat' first
      | (with_reducible exact ih0 _ _ _)
      | (with_reducible exact ih1 _ _ _ _ _ _ _)
      | (with_reducible exact ih2 _ _ _ _ _ _ _)
      | (with_reducible exact ih3 _ _ _ _ _ _ _)
      | (with_reducible exact ih4 _ _ _ _ _ _ _)
      | (with_reducible exact ih5 _ _ _ _ _ _ _)
      | (with_reducible exact ih6 _ _ _ _ _ _ _)
      | (with_reducible exact ih7 _ _ _ _ _ _)
      | (with_reducible exact LeO.refl _)
      | (with_reducible exact LeO.none _)
      | (with_reducible refine LeO.ite ?_ ?_)
      | (with_reducible refine LeO.bind ?_ (fun _ => ?_))
      | exact ih0 _ _ _
      | exact ih1 _ _ _ _ _ _ _
      | exact ih2 _ _ _ _ _ _ _
      | exact ih3 _ _ _ _ _ _ _
      | exact ih4 _ _ _ _ _ _ _
      | exact ih5 _ _ _ _ _ _ _
      | exact ih6 _ _ _ _ _ _ _
      | exact ih7 _ _ _ _ _ _
      | exact LeO.none _
      | refine LeO.ite ?_ ?_
      | refine LeO.bind ?_ (fun _ => ?_)
theorem quipuref11_Rune.mono : ∀ a0 a1 k, LeO (quipuref11_Rune.f k a0 a1) (quipuref11_Rune.f (k + 1) a0 a1) := by
  intro a0 a1 k
  obtain ⟨ih0, ih1, ih2, ih3, ih4, ih5, ih6, ih7⟩ := quipuref11_Rune.mono_l k
  unfold quipuref11_Rune.f
  repeat' first
      | (with_reducible exact ih0 _ _ _)
      | (with_reducible exact ih1 _ _ _ _ _ _ _)
      | (with_reducible exact ih2 _ _ _ _ _ _ _)
      | (with_reducible exact ih3 _ _ _ _ _ _ _)
      | (with_reducible exact ih4 _ _ _ _ _ _ _)
      | (with_reducible exact ih5 _ _ _ _ _ _ _)
      | (with_reducible exact ih6 _ _ _ _ _ _ _)
      | (with_reducible exact ih7 _ _ _ _ _ _)
      | (with_reducible exact LeO.refl _)
      | (with_reducible exact LeO.none _)
      | (with_reducible refine LeO.ite ?_ ?_)
      | (with_reducible refine LeO.bind ?_ (fun _ => ?_))
      | exact ih0 _ _ _
      | exact ih1 _ _ _ _ _ _ _
      | exact ih2 _ _ _ _ _ _ _
      | exact ih3 _ _ _ _ _ _ _
      | exact ih4 _ _ _ _ _ _ _
      | exact ih5 _ _ _ _ _ _ _
      | exact ih6 _ _ _ _ _ _ _
      | exact ih7 _ _ _ _ _ _
      | exact LeO.none _
      | refine LeO.ite ?_ ?_
      | refine LeO.bind ?_ (fun _ => ?_)
set_option maxHeartbeats 8000000 in
set_option maxRecDepth 100000 in
theorem quipuref11_Rune.calls (k : Nat) (a0 : ByteArray) (a1 : Int) (r : Int) (w : World) (h : quipuref11_Rune.f k a0 a1 = some r) :
    Calls Try.prog 53 #[.string a0, .int .i64 a1] w fun e w' => e = .returned (.int .i64 r) ∧ Drawn0 w w' := by
  have H : (if a1 < 0 then (quipuref11_Rune.j0 k a0 a1 true) else (quipuref11_Rune.j0 k a0 a1 (decide (a1 ≥ (a0.size : Int))))) = some r := h
  clear h
  have HC3 := Aside0.mk H
  clear H
  go_enter Try.func53, Try.ntmps53
  go_upto_region 1 with (fail)
  go_cut [16] (fun v16 wc => ∃ (kq : Nat) (x16_2 : Bool), v16 = .bool x16_2 ∧ Aside0 (quipuref11_Rune.j0 kq a0 a1 x16_2 = some r) ∧ Aside0 (kq ≤ k) ∧ Drawn0 w wc)
  case first =>
    have H := HC3.out
    clear HC3
    by_cases c4 : a1 < 0
    · rw [if_pos c4] at H
      have c4b0 : decide (a1 < 0) = true := decide_eq_true c4
      clear c4
      (first | rw [c4b0] | (simp only [i64_w, i32_w]; rw [c4b0]) | skip)
      have H' := Aside0.mk H
      clear H
      go_wp2
      go_meet
      case rel => exact ⟨_, (true), (by first | rfl | (simp; done) | (simp [*]; done)), H', ⟨by first | omega | exact Nat.le_refl _⟩, by repeat (first | exact Drawn0.refl _ | apply Drawn0.step)⟩
    · rw [if_neg c4] at H
      have c4b0 : decide (a1 < 0) = false := decide_eq_false c4
      clear c4
      (first | rw [c4b0] | (simp only [i64_w, i32_w]; rw [c4b0]) | skip)
      have H' := Aside0.mk H
      clear H
      go_wp2
      go_meet
      case rel => exact ⟨_, (decide (a1 ≥ (a0.size : Int))), (by first | rfl | (simp; done) | (simp [*]; done)), H', ⟨by first | omega | exact Nat.le_refl _⟩, by repeat (first | exact Drawn0.refl _ | apply Drawn0.step)⟩
  case rest =>
    clear HC3
    try clear p2
    try clear c4
    try clear c4b0
    obtain ⟨kq, x16_2, rfl, HA, HJ2, ⟨mc2, rfl⟩⟩ := hcut
    cases kq with
    | zero => exact absurd HA.out (by simp [quipuref11_Rune.j0])
    | succ kj2 =>
      have H := HA.out
      clear HA
      simp only [quipuref11_Rune.j0] at H
      by_cases c5 : x16_2 = true
      · subst c5
        have H1 : (some 0) = some r := by rw [if_pos rfl] at H; exact H
        clear H
        have H := H1
        clear H1
        obtain rfl := Option.some.inj H
        go_wp2
        go_ret
        exact ⟨by first | rfl | (simp; done) | (simp [*]; done), by repeat (first | exact Drawn0.refl _ | apply Drawn0.step)⟩
      · replace c5 := Bool.eq_false_iff.mpr c5
        subst c5
        have H1 : (if 0 ≤ a1 then (if a1 < (a0.size : Int) then ((quipuref11_within.f a0 (wrap64 (a1 + 1)) 128 191).bind fun t131 => ((quipuref11_within.f a0 (wrap64 (a1 + 2)) 128 191).bind fun t132 => ((quipuref11_within.f a0 (wrap64 (a1 + 3)) 128 191).bind fun t133 => (if (wrap64 (bt a0 a1)) < 128 then (some 1) else (if (wrap64 (bt a0 a1)) ≥ 194 then (if (wrap64 (bt a0 a1)) ≤ 223 then (quipuref11_Rune.j1 kj2 a0 a1 (wrap64 (bt a0 a1)) t131 t132 t133 t131) else (quipuref11_Rune.j1 kj2 a0 a1 (wrap64 (bt a0 a1)) t131 t132 t133 false)) else (quipuref11_Rune.j1 kj2 a0 a1 (wrap64 (bt a0 a1)) t131 t132 t133 false)))))) else (none)) else (none)) = some r := by rw [if_neg (show ¬ (false = true) by decide)] at H; exact H
        clear H
        have H := H1
        clear H1
        by_cases c6 : 0 ≤ a1
        · rw [if_pos c6] at H
          have c6b0 : decide (0 ≤ a1) = true := decide_eq_true c6
          clear c6
          by_cases c7 : a1 < (a0.size : Int)
          · rw [if_pos c7] at H
            have c7b0 : decide (a1 < (a0.size : Int)) = true := decide_eq_true c7
            clear c7
            replace H := Option.bind_eq_some_iff.mp H
            obtain ⟨t131, A90, H⟩ := H
            replace H : ((quipuref11_within.f a0 (wrap64 (a1 + 2)) 128 191).bind fun t132 => ((quipuref11_within.f a0 (wrap64 (a1 + 3)) 128 191).bind fun t133 => (if (wrap64 (bt a0 a1)) < 128 then (some 1) else (if (wrap64 (bt a0 a1)) ≥ 194 then (if (wrap64 (bt a0 a1)) ≤ 223 then (quipuref11_Rune.j1 kj2 a0 a1 (wrap64 (bt a0 a1)) t131 t132 t133 t131) else (quipuref11_Rune.j1 kj2 a0 a1 (wrap64 (bt a0 a1)) t131 t132 t133 false)) else (quipuref11_Rune.j1 kj2 a0 a1 (wrap64 (bt a0 a1)) t131 t132 t133 false))))) = some r := H
            have A9 := Aside0.mk A90
            clear A90
            replace H := Option.bind_eq_some_iff.mp H
            obtain ⟨t132, A100, H⟩ := H
            replace H : ((quipuref11_within.f a0 (wrap64 (a1 + 3)) 128 191).bind fun t133 => (if (wrap64 (bt a0 a1)) < 128 then (some 1) else (if (wrap64 (bt a0 a1)) ≥ 194 then (if (wrap64 (bt a0 a1)) ≤ 223 then (quipuref11_Rune.j1 kj2 a0 a1 (wrap64 (bt a0 a1)) t131 t132 t133 t131) else (quipuref11_Rune.j1 kj2 a0 a1 (wrap64 (bt a0 a1)) t131 t132 t133 false)) else (quipuref11_Rune.j1 kj2 a0 a1 (wrap64 (bt a0 a1)) t131 t132 t133 false)))) = some r := H
            have A10 := Aside0.mk A100
            clear A100
            replace H := Option.bind_eq_some_iff.mp H
            obtain ⟨t133, A110, H⟩ := H
            replace H : (if (wrap64 (bt a0 a1)) < 128 then (some 1) else (if (wrap64 (bt a0 a1)) ≥ 194 then (if (wrap64 (bt a0 a1)) ≤ 223 then (quipuref11_Rune.j1 kj2 a0 a1 (wrap64 (bt a0 a1)) t131 t132 t133 t131) else (quipuref11_Rune.j1 kj2 a0 a1 (wrap64 (bt a0 a1)) t131 t132 t133 false)) else (quipuref11_Rune.j1 kj2 a0 a1 (wrap64 (bt a0 a1)) t131 t132 t133 false))) = some r := H
            have A11 := Aside0.mk A110
            clear A110
            by_cases c12 : (wrap64 (bt a0 a1)) < 128
            · rw [if_pos c12] at H
              have c12b0 : decide ((wrap64 (bt a0 a1)) < 128) = true := decide_eq_true c12
              clear c12
              obtain rfl := Option.some.inj H
              have p8 : 0 ≤ (a1 : Int) := of_decide_eq_true (by first | (with_reducible assumption) | assumption)
              have q8 : a1 < (a0.size : Int) := of_decide_eq_true (by first | (with_reducible assumption) | assumption)
              have hx8 := bt_at a0 a1
              replace p8 := eq_true p8
              replace q8 := eq_true q8
              go_wp2_with (first | ((with_reducible refine gate_callee (f := 60) rfl ?_); refine goesL_ (some 24) rfl rfl Try.func60 (by kernel_rfl) rfl #[.string a0, .int .i64 (wrap64 (a1 + 1)), .int .i64 128, .int .i64 191] rfl (by (try simp only [List.map_toArray, List.map_cons, List.map_nil]); first | done | rfl | (simp only [List.length_drop, List.length_take]; rfl)) ?_; (with_reducible refine (quipuref11_within.calls a0 (wrap64 (a1 + 1)) 128 191 t131 _ A9.out).mono ?_); rintro e w' ⟨rfl, ⟨nd, rfl⟩⟩; refine ⟨_, rfl, ?_⟩) | ((with_reducible refine gate_callee (f := 60) rfl ?_); refine goesL_ (some 28) rfl rfl Try.func60 (by kernel_rfl) rfl #[.string a0, .int .i64 (wrap64 (a1 + 2)), .int .i64 128, .int .i64 191] rfl (by (try simp only [List.map_toArray, List.map_cons, List.map_nil]); first | done | rfl | (simp only [List.length_drop, List.length_take]; rfl)) ?_; (with_reducible refine (quipuref11_within.calls a0 (wrap64 (a1 + 2)) 128 191 t132 _ A10.out).mono ?_); rintro e w' ⟨rfl, ⟨nd, rfl⟩⟩; refine ⟨_, rfl, ?_⟩) | ((with_reducible refine gate_callee (f := 60) rfl ?_); refine goesL_ (some 32) rfl rfl Try.func60 (by kernel_rfl) rfl #[.string a0, .int .i64 (wrap64 (a1 + 3)), .int .i64 128, .int .i64 191] rfl (by (try simp only [List.map_toArray, List.map_cons, List.map_nil]); first | done | rfl | (simp only [List.length_drop, List.length_take]; rfl)) ?_; (with_reducible refine (quipuref11_within.calls a0 (wrap64 (a1 + 3)) 128 191 t133 _ A11.out).mono ?_); rintro e w' ⟨rfl, ⟨nd, rfl⟩⟩; refine ⟨_, rfl, ?_⟩))
              go_ret
              exact ⟨by first | rfl | (simp; done) | (simp [*]; done), by repeat (first | exact Drawn0.refl _ | apply Drawn0.step)⟩
            · rw [if_neg c12] at H
              have c12b0 : decide ((wrap64 (bt a0 a1)) < 128) = false := decide_eq_false c12
              clear c12
              have HC13 := Aside0.mk H
              clear H
              have p8 : 0 ≤ (a1 : Int) := of_decide_eq_true (by first | (with_reducible assumption) | assumption)
              have q8 : a1 < (a0.size : Int) := of_decide_eq_true (by first | (with_reducible assumption) | assumption)
              have hx8 := bt_at a0 a1
              replace p8 := eq_true p8
              replace q8 := eq_true q8
              go_upto_region 9 with (first | ((with_reducible refine gate_callee (f := 60) rfl ?_); refine goesL_ (some 24) rfl rfl Try.func60 (by kernel_rfl) rfl #[.string a0, .int .i64 (wrap64 (a1 + 1)), .int .i64 128, .int .i64 191] rfl (by (try simp only [List.map_toArray, List.map_cons, List.map_nil]); first | done | rfl | (simp only [List.length_drop, List.length_take]; rfl)) ?_; (with_reducible refine (quipuref11_within.calls a0 (wrap64 (a1 + 1)) 128 191 t131 _ A9.out).mono ?_); rintro e w' ⟨rfl, ⟨nd, rfl⟩⟩; refine ⟨_, rfl, ?_⟩) | ((with_reducible refine gate_callee (f := 60) rfl ?_); refine goesL_ (some 28) rfl rfl Try.func60 (by kernel_rfl) rfl #[.string a0, .int .i64 (wrap64 (a1 + 2)), .int .i64 128, .int .i64 191] rfl (by (try simp only [List.map_toArray, List.map_cons, List.map_nil]); first | done | rfl | (simp only [List.length_drop, List.length_take]; rfl)) ?_; (with_reducible refine (quipuref11_within.calls a0 (wrap64 (a1 + 2)) 128 191 t132 _ A10.out).mono ?_); rintro e w' ⟨rfl, ⟨nd, rfl⟩⟩; refine ⟨_, rfl, ?_⟩) | ((with_reducible refine gate_callee (f := 60) rfl ?_); refine goesL_ (some 32) rfl rfl Try.func60 (by kernel_rfl) rfl #[.string a0, .int .i64 (wrap64 (a1 + 3)), .int .i64 128, .int .i64 191] rfl (by (try simp only [List.map_toArray, List.map_cons, List.map_nil]); first | done | rfl | (simp only [List.length_drop, List.length_take]; rfl)) ?_; (with_reducible refine (quipuref11_within.calls a0 (wrap64 (a1 + 3)) 128 191 t133 _ A11.out).mono ?_); rintro e w' ⟨rfl, ⟨nd, rfl⟩⟩; refine ⟨_, rfl, ?_⟩))
              (try simp only [Act.put, List.setIfInBounds_toArray, List.set_cons_zero, List.set_cons_succ])
              go_cut [36] (fun v36 wc => ∃ (kq : Nat) (x36_12 : Bool), v36 = .bool x36_12 ∧ Aside0 (quipuref11_Rune.j1 kq a0 a1 (wrap64 (bt a0 a1)) t131 t132 t133 x36_12 = some r) ∧ Aside0 (kq ≤ kj2) ∧ Drawn0 w wc)
              case first =>
                have H := HC13.out
                clear HC13
                by_cases c14 : (wrap64 (bt a0 a1)) ≥ 194
                · rw [if_pos c14] at H
                  have c14b0 : decide (194 ≤ (wrap64 (bt a0 a1))) = true := decide_eq_true c14
                  clear c14
                  (first | rw [c14b0] | (simp only [i64_w, i32_w]; rw [c14b0]) | skip)
                  by_cases c15 : (wrap64 (bt a0 a1)) ≤ 223
                  · rw [if_pos c15] at H
                    have c15b0 : decide ((wrap64 (bt a0 a1)) ≤ 223) = true := decide_eq_true c15
                    clear c15
                    have H' := Aside0.mk H
                    clear H
                    go_wp2
                    go_meet
                    case rel => exact ⟨_, (t131), (by first | rfl | (simp; done) | (simp [*]; done)), H', ⟨by have := HJ2.out; first | omega | exact Nat.le_refl _⟩, by repeat (first | exact Drawn0.refl _ | apply Drawn0.step)⟩
                  · rw [if_neg c15] at H
                    have c15b0 : decide ((wrap64 (bt a0 a1)) ≤ 223) = false := decide_eq_false c15
                    clear c15
                    have H' := Aside0.mk H
                    clear H
                    go_wp2
                    go_meet
                    case rel => exact ⟨_, (false), (by first | rfl | (simp; done) | (simp [*]; done)), H', ⟨by have := HJ2.out; first | omega | exact Nat.le_refl _⟩, by repeat (first | exact Drawn0.refl _ | apply Drawn0.step)⟩
                · rw [if_neg c14] at H
                  have c14b0 : decide (194 ≤ (wrap64 (bt a0 a1))) = false := decide_eq_false c14
                  clear c14
                  (first | rw [c14b0] | (simp only [i64_w, i32_w]; rw [c14b0]) | skip)
                  have H' := Aside0.mk H
                  clear H
                  go_wp2
                  go_meet
                  case rel => exact ⟨_, (false), (by first | rfl | (simp; done) | (simp [*]; done)), H', ⟨by have := HJ2.out; first | omega | exact Nat.le_refl _⟩, by repeat (first | exact Drawn0.refl _ | apply Drawn0.step)⟩
              case rest =>
                clear HC13
                try clear c1
                try clear c2
                try clear p2
                try clear c4
                try clear c4b0
                try clear c5
                try clear c6
                try clear c6b0
                try clear p6
                try clear c7
                try clear c7b0
                try clear p8
                try clear q8
                try clear hx8
                try clear c12
                try clear c12b0
                try clear c14
                try clear c14b0
                try clear c15
                try clear c15b0
                try clear p2
                try clear p8
                try clear q8
                obtain ⟨kq, x36_12, rfl, HA, HJ12, ⟨mc12, rfl⟩⟩ := hcut
                cases kq with
                | zero => exact absurd HA.out (by simp [quipuref11_Rune.j1])
                | succ kj12 =>
                  have H := HA.out
                  clear HA
                  simp only [quipuref11_Rune.j1] at H
                  by_cases c16 : x36_12 = true
                  · subst c16
                    have H1 : (some 2) = some r := by rw [if_pos rfl] at H; exact H
                    clear H
                    have H := H1
                    clear H1
                    obtain rfl := Option.some.inj H
                    go_wp2
                    go_ret
                    exact ⟨by first | rfl | (simp; done) | (simp [*]; done), by repeat (first | exact Drawn0.refl _ | apply Drawn0.step)⟩
                  · replace c16 := Bool.eq_false_iff.mpr c16
                    subst c16
                    have H1 : (if (wrap64 (bt a0 a1)) = 224 then ((quipuref11_within.f a0 (wrap64 (a1 + 1)) 160 191).bind fun t134 => (if t134 = true then (quipuref11_Rune.j2 kj12 a0 a1 (wrap64 (bt a0 a1)) t131 t132 t133 t132) else (quipuref11_Rune.j2 kj12 a0 a1 (wrap64 (bt a0 a1)) t131 t132 t133 false))) else (quipuref11_Rune.j2 kj12 a0 a1 (wrap64 (bt a0 a1)) t131 t132 t133 false)) = some r := by rw [if_neg (show ¬ (false = true) by decide)] at H; exact H
                    clear H
                    have H := H1
                    clear H1
                    have HC17 := Aside0.mk H
                    clear H
                    go_upto_region 11 with (fail)
                    go_cut [46] (fun v46 wc => ∃ (kq : Nat) (x46_16 : Bool), v46 = .bool x46_16 ∧ Aside0 (quipuref11_Rune.j2 kq a0 a1 (wrap64 (bt a0 a1)) t131 t132 t133 x46_16 = some r) ∧ Aside0 (kq ≤ kj12) ∧ Drawn0 w wc)
                    case first =>
                      have H := HC17.out
                      clear HC17
                      by_cases c18 : (wrap64 (bt a0 a1)) = 224
                      · rw [if_pos c18] at H
                        have c18b0 : ((wrap64 (bt a0 a1)) == 224) = true := beq_iff_eq.mpr c18
                        have c18b1 : ((wrap64 (bt a0 a1)) != 224) = false := bne_eq_false_iff_eq.mpr c18
                        clear c18
                        (first | rw [c18b0] | (simp only [i64_w, i32_w]; rw [c18b0]) | skip)
                        replace H := Option.bind_eq_some_iff.mp H
                        obtain ⟨t134, A190, H⟩ := H
                        replace H : (if t134 = true then (quipuref11_Rune.j2 kj12 a0 a1 (wrap64 (bt a0 a1)) t131 t132 t133 t132) else (quipuref11_Rune.j2 kj12 a0 a1 (wrap64 (bt a0 a1)) t131 t132 t133 false)) = some r := H
                        have A19 := Aside0.mk A190
                        clear A190
                        by_cases c20 : t134 = true
                        · subst c20
                          have H1 : (quipuref11_Rune.j2 kj12 a0 a1 (wrap64 (bt a0 a1)) t131 t132 t133 t132) = some r := by rw [if_pos rfl] at H; exact H
                          clear H
                          have H := H1
                          clear H1
                          have H' := Aside0.mk H
                          clear H
                          go_wp2_with (first | (go_at_call 60; (with_reducible refine (quipuref11_within.calls a0 (wrap64 (a1 + 1)) 160 191 true _ A19.out).mono ?_); rintro e w' ⟨rfl, ⟨nd, rfl⟩⟩))
                          go_meet
                          case rel => exact ⟨_, (t132), (by first | rfl | (simp; done) | (simp [*]; done)), H', ⟨by have := HJ2.out; have := HJ12.out; first | omega | exact Nat.le_refl _⟩, by repeat (first | exact Drawn0.refl _ | apply Drawn0.step)⟩
                        · replace c20 := Bool.eq_false_iff.mpr c20
                          subst c20
                          have H1 : (quipuref11_Rune.j2 kj12 a0 a1 (wrap64 (bt a0 a1)) t131 t132 t133 false) = some r := by rw [if_neg (show ¬ (false = true) by decide)] at H; exact H
                          clear H
                          have H := H1
                          clear H1
                          have H' := Aside0.mk H
                          clear H
                          go_wp2_with (first | (go_at_call 60; (with_reducible refine (quipuref11_within.calls a0 (wrap64 (a1 + 1)) 160 191 false _ A19.out).mono ?_); rintro e w' ⟨rfl, ⟨nd, rfl⟩⟩))
                          go_meet
                          case rel => exact ⟨_, (false), (by first | rfl | (simp; done) | (simp [*]; done)), H', ⟨by have := HJ2.out; have := HJ12.out; first | omega | exact Nat.le_refl _⟩, by repeat (first | exact Drawn0.refl _ | apply Drawn0.step)⟩
                      · rw [if_neg c18] at H
                        have c18b0 : ((wrap64 (bt a0 a1)) == 224) = false := beq_eq_false_iff_ne.mpr c18
                        have c18b1 : ((wrap64 (bt a0 a1)) != 224) = true := bne_iff_ne.mpr c18
                        (first | rw [c18b0] | (simp only [i64_w, i32_w]; rw [c18b0]) | skip)
                        have H' := Aside0.mk H
                        clear H
                        go_wp2
                        go_meet
                        case rel => exact ⟨_, (false), (by first | rfl | (simp; done) | (simp [*]; done)), H', ⟨by have := HJ2.out; have := HJ12.out; first | omega | exact Nat.le_refl _⟩, by repeat (first | exact Drawn0.refl _ | apply Drawn0.step)⟩
                    case rest =>
                      clear HC17
                      try clear c1
                      try clear c2
                      try clear p2
                      try clear c4
                      try clear c4b0
                      try clear c5
                      try clear c6
                      try clear c6b0
                      try clear p6
                      try clear c7
                      try clear c7b0
                      try clear p8
                      try clear q8
                      try clear hx8
                      try clear c12
                      try clear c12b0
                      try clear c14
                      try clear c14b0
                      try clear c15
                      try clear c15b0
                      try clear c16
                      try clear c18
                      try clear c18b0
                      try clear c18b1
                      try clear c20
                      try clear p2
                      try clear p6
                      try clear p8
                      try clear q8
                      obtain ⟨kq, x46_16, rfl, HA, HJ16, ⟨mc16, rfl⟩⟩ := hcut
                      cases kq with
                      | zero => exact absurd HA.out (by simp [quipuref11_Rune.j2])
                      | succ kj16 =>
                        have H := HA.out
                        clear HA
                        simp only [quipuref11_Rune.j2] at H
                        by_cases c21 : x46_16 = true
                        · subst c21
                          have H1 : (some 3) = some r := by rw [if_pos rfl] at H; exact H
                          clear H
                          have H := H1
                          clear H1
                          obtain rfl := Option.some.inj H
                          go_wp2
                          go_ret
                          exact ⟨by first | rfl | (simp; done) | (simp [*]; done), by repeat (first | exact Drawn0.refl _ | apply Drawn0.step)⟩
                        · replace c21 := Bool.eq_false_iff.mpr c21
                          subst c21
                          have H1 : (if (wrap64 (bt a0 a1)) ≥ 225 then (if (wrap64 (bt a0 a1)) ≤ 236 then (if t131 = true then (quipuref11_Rune.j3 kj16 a0 a1 (wrap64 (bt a0 a1)) t131 t132 t133 t132) else (quipuref11_Rune.j3 kj16 a0 a1 (wrap64 (bt a0 a1)) t131 t132 t133 false)) else (quipuref11_Rune.j3 kj16 a0 a1 (wrap64 (bt a0 a1)) t131 t132 t133 false)) else (quipuref11_Rune.j3 kj16 a0 a1 (wrap64 (bt a0 a1)) t131 t132 t133 false)) = some r := by rw [if_neg (show ¬ (false = true) by decide)] at H; exact H
                          clear H
                          have H := H1
                          clear H1
                          have HC22 := Aside0.mk H
                          clear H
                          go_upto_region 13 with (fail)
                          go_cut [58] (fun v58 wc => ∃ (kq : Nat) (x58_21 : Bool), v58 = .bool x58_21 ∧ Aside0 (quipuref11_Rune.j3 kq a0 a1 (wrap64 (bt a0 a1)) t131 t132 t133 x58_21 = some r) ∧ Aside0 (kq ≤ kj16) ∧ Drawn0 w wc)
                          case first =>
                            have H := HC22.out
                            clear HC22
                            by_cases c23 : (wrap64 (bt a0 a1)) ≥ 225
                            · rw [if_pos c23] at H
                              have c23b0 : decide (225 ≤ (wrap64 (bt a0 a1))) = true := decide_eq_true c23
                              clear c23
                              (first | rw [c23b0] | (simp only [i64_w, i32_w]; rw [c23b0]) | skip)
                              by_cases c24 : (wrap64 (bt a0 a1)) ≤ 236
                              · rw [if_pos c24] at H
                                have c24b0 : decide ((wrap64 (bt a0 a1)) ≤ 236) = true := decide_eq_true c24
                                clear c24
                                by_cases c25 : t131 = true
                                · subst c25
                                  have H1 : (quipuref11_Rune.j3 kj16 a0 a1 (wrap64 (bt a0 a1)) true t132 t133 t132) = some r := by rw [if_pos rfl] at H; exact H
                                  clear H
                                  have H := H1
                                  clear H1
                                  have H' := Aside0.mk H
                                  clear H
                                  go_wp2
                                  go_meet
                                  case rel => exact ⟨_, (t132), (by first | rfl | (simp; done) | (simp [*]; done)), H', ⟨by have := HJ2.out; have := HJ12.out; have := HJ16.out; first | omega | exact Nat.le_refl _⟩, by repeat (first | exact Drawn0.refl _ | apply Drawn0.step)⟩
                                · replace c25 := Bool.eq_false_iff.mpr c25
                                  subst c25
                                  have H1 : (quipuref11_Rune.j3 kj16 a0 a1 (wrap64 (bt a0 a1)) false t132 t133 false) = some r := by rw [if_neg (show ¬ (false = true) by decide)] at H; exact H
                                  clear H
                                  have H := H1
                                  clear H1
                                  have H' := Aside0.mk H
                                  clear H
                                  go_wp2
                                  go_meet
                                  case rel => exact ⟨_, (false), (by first | rfl | (simp; done) | (simp [*]; done)), H', ⟨by have := HJ2.out; have := HJ12.out; have := HJ16.out; first | omega | exact Nat.le_refl _⟩, by repeat (first | exact Drawn0.refl _ | apply Drawn0.step)⟩
                              · rw [if_neg c24] at H
                                have c24b0 : decide ((wrap64 (bt a0 a1)) ≤ 236) = false := decide_eq_false c24
                                clear c24
                                have H' := Aside0.mk H
                                clear H
                                go_wp2
                                go_meet
                                case rel => exact ⟨_, (false), (by first | rfl | (simp; done) | (simp [*]; done)), H', ⟨by have := HJ2.out; have := HJ12.out; have := HJ16.out; first | omega | exact Nat.le_refl _⟩, by repeat (first | exact Drawn0.refl _ | apply Drawn0.step)⟩
                            · rw [if_neg c23] at H
                              have c23b0 : decide (225 ≤ (wrap64 (bt a0 a1))) = false := decide_eq_false c23
                              clear c23
                              (first | rw [c23b0] | (simp only [i64_w, i32_w]; rw [c23b0]) | skip)
                              have H' := Aside0.mk H
                              clear H
                              go_wp2
                              go_meet
                              case rel => exact ⟨_, (false), (by first | rfl | (simp; done) | (simp [*]; done)), H', ⟨by have := HJ2.out; have := HJ12.out; have := HJ16.out; first | omega | exact Nat.le_refl _⟩, by repeat (first | exact Drawn0.refl _ | apply Drawn0.step)⟩
                          case rest =>
                            clear HC22
                            try clear c1
                            try clear c2
                            try clear p2
                            try clear c4
                            try clear c4b0
                            try clear c5
                            try clear c6
                            try clear c6b0
                            try clear p6
                            try clear c7
                            try clear c7b0
                            try clear p8
                            try clear q8
                            try clear hx8
                            try clear c12
                            try clear c12b0
                            try clear c14
                            try clear c14b0
                            try clear c15
                            try clear c15b0
                            try clear c16
                            try clear c18
                            try clear c18b0
                            try clear c18b1
                            try clear c20
                            try clear c21
                            try clear c23
                            try clear c23b0
                            try clear c24
                            try clear c24b0
                            try clear c25
                            try clear p2
                            try clear p6
                            try clear p8
                            try clear q8
                            obtain ⟨kq, x58_21, rfl, HA, HJ21, ⟨mc21, rfl⟩⟩ := hcut
                            cases kq with
                            | zero => exact absurd HA.out (by simp [quipuref11_Rune.j3])
                            | succ kj21 =>
                              have H := HA.out
                              clear HA
                              simp only [quipuref11_Rune.j3] at H
                              have HC26 := Aside0.mk H
                              clear H
                              go_upto_if 58 with (fail)
                              go_cut [58] (fun v58 wc => ∃ (kq : Nat) (x58_25 : Bool), v58 = .bool x58_25 ∧ Aside0 (quipuref11_Rune.j4 kq a0 a1 (wrap64 (bt a0 a1)) t131 t132 t133 x58_25 = some r) ∧ Aside0 (kq ≤ kj21) ∧ Drawn0 w wc)
                              case first =>
                                have H := HC26.out
                                clear HC26
                                by_cases c27 : x58_21 = true
                                · subst c27
                                  have H1 : (quipuref11_Rune.j4 kj21 a0 a1 (wrap64 (bt a0 a1)) t131 t132 t133 true) = some r := by rw [if_pos rfl] at H; exact H
                                  clear H
                                  have H := H1
                                  clear H1
                                  have H' := Aside0.mk H
                                  clear H
                                  go_wp2
                                  go_meet
                                  case rel => exact ⟨_, (true), (by first | rfl | (simp; done) | (simp [*]; done)), H', ⟨by have := HJ2.out; have := HJ12.out; have := HJ16.out; have := HJ21.out; first | omega | exact Nat.le_refl _⟩, by repeat (first | exact Drawn0.refl _ | apply Drawn0.step)⟩
                                · replace c27 := Bool.eq_false_iff.mpr c27
                                  subst c27
                                  have H1 : (if (wrap64 (bt a0 a1)) = 238 then (if t131 = true then (quipuref11_Rune.j4 kj21 a0 a1 (wrap64 (bt a0 a1)) t131 t132 t133 t132) else (quipuref11_Rune.j4 kj21 a0 a1 (wrap64 (bt a0 a1)) t131 t132 t133 false)) else (if (wrap64 (bt a0 a1)) = 239 then (if t131 = true then (quipuref11_Rune.j4 kj21 a0 a1 (wrap64 (bt a0 a1)) t131 t132 t133 t132) else (quipuref11_Rune.j4 kj21 a0 a1 (wrap64 (bt a0 a1)) t131 t132 t133 false)) else (quipuref11_Rune.j4 kj21 a0 a1 (wrap64 (bt a0 a1)) t131 t132 t133 false))) = some r := by rw [if_neg (show ¬ (false = true) by decide)] at H; exact H
                                  clear H
                                  have H := H1
                                  clear H1
                                  by_cases c28 : (wrap64 (bt a0 a1)) = 238
                                  · rw [if_pos c28] at H
                                    have c28b0 : ((wrap64 (bt a0 a1)) == 238) = true := beq_iff_eq.mpr c28
                                    have c28b1 : ((wrap64 (bt a0 a1)) != 238) = false := bne_eq_false_iff_eq.mpr c28
                                    clear c28
                                    (first | rw [c28b0] | (simp only [i64_w, i32_w]; rw [c28b0]) | skip)
                                    by_cases c29 : t131 = true
                                    · subst c29
                                      have H1 : (quipuref11_Rune.j4 kj21 a0 a1 (wrap64 (bt a0 a1)) true t132 t133 t132) = some r := by rw [if_pos rfl] at H; exact H
                                      clear H
                                      have H := H1
                                      clear H1
                                      have H' := Aside0.mk H
                                      clear H
                                      go_wp2
                                      go_meet
                                      case rel => exact ⟨_, (t132), (by first | rfl | (simp; done) | (simp [*]; done)), H', ⟨by have := HJ2.out; have := HJ12.out; have := HJ16.out; have := HJ21.out; first | omega | exact Nat.le_refl _⟩, by repeat (first | exact Drawn0.refl _ | apply Drawn0.step)⟩
                                    · replace c29 := Bool.eq_false_iff.mpr c29
                                      subst c29
                                      have H1 : (quipuref11_Rune.j4 kj21 a0 a1 (wrap64 (bt a0 a1)) false t132 t133 false) = some r := by rw [if_neg (show ¬ (false = true) by decide)] at H; exact H
                                      clear H
                                      have H := H1
                                      clear H1
                                      have H' := Aside0.mk H
                                      clear H
                                      go_wp2
                                      go_meet
                                      case rel => exact ⟨_, (false), (by first | rfl | (simp; done) | (simp [*]; done)), H', ⟨by have := HJ2.out; have := HJ12.out; have := HJ16.out; have := HJ21.out; first | omega | exact Nat.le_refl _⟩, by repeat (first | exact Drawn0.refl _ | apply Drawn0.step)⟩
                                  · rw [if_neg c28] at H
                                    have c28b0 : ((wrap64 (bt a0 a1)) == 238) = false := beq_eq_false_iff_ne.mpr c28
                                    have c28b1 : ((wrap64 (bt a0 a1)) != 238) = true := bne_iff_ne.mpr c28
                                    (first | rw [c28b0] | (simp only [i64_w, i32_w]; rw [c28b0]) | skip)
                                    by_cases c30 : (wrap64 (bt a0 a1)) = 239
                                    · rw [if_pos c30] at H
                                      have c30b0 : ((wrap64 (bt a0 a1)) == 239) = true := beq_iff_eq.mpr c30
                                      have c30b1 : ((wrap64 (bt a0 a1)) != 239) = false := bne_eq_false_iff_eq.mpr c30
                                      clear c30
                                      by_cases c31 : t131 = true
                                      · subst c31
                                        have H1 : (quipuref11_Rune.j4 kj21 a0 a1 (wrap64 (bt a0 a1)) true t132 t133 t132) = some r := by rw [if_pos rfl] at H; exact H
                                        clear H
                                        have H := H1
                                        clear H1
                                        have H' := Aside0.mk H
                                        clear H
                                        go_wp2
                                        go_meet
                                        case rel => exact ⟨_, (t132), (by first | rfl | (simp; done) | (simp [*]; done)), H', ⟨by have := HJ2.out; have := HJ12.out; have := HJ16.out; have := HJ21.out; first | omega | exact Nat.le_refl _⟩, by repeat (first | exact Drawn0.refl _ | apply Drawn0.step)⟩
                                      · replace c31 := Bool.eq_false_iff.mpr c31
                                        subst c31
                                        have H1 : (quipuref11_Rune.j4 kj21 a0 a1 (wrap64 (bt a0 a1)) false t132 t133 false) = some r := by rw [if_neg (show ¬ (false = true) by decide)] at H; exact H
                                        clear H
                                        have H := H1
                                        clear H1
                                        have H' := Aside0.mk H
                                        clear H
                                        go_wp2
                                        go_meet
                                        case rel => exact ⟨_, (false), (by first | rfl | (simp; done) | (simp [*]; done)), H', ⟨by have := HJ2.out; have := HJ12.out; have := HJ16.out; have := HJ21.out; first | omega | exact Nat.le_refl _⟩, by repeat (first | exact Drawn0.refl _ | apply Drawn0.step)⟩
                                    · rw [if_neg c30] at H
                                      have c30b0 : ((wrap64 (bt a0 a1)) == 239) = false := beq_eq_false_iff_ne.mpr c30
                                      have c30b1 : ((wrap64 (bt a0 a1)) != 239) = true := bne_iff_ne.mpr c30
                                      have H' := Aside0.mk H
                                      clear H
                                      go_wp2
                                      go_meet
                                      case rel => exact ⟨_, (false), (by first | rfl | (simp; done) | (simp [*]; done)), H', ⟨by have := HJ2.out; have := HJ12.out; have := HJ16.out; have := HJ21.out; first | omega | exact Nat.le_refl _⟩, by repeat (first | exact Drawn0.refl _ | apply Drawn0.step)⟩
                              case rest =>
                                clear HC26
                                try clear c1
                                try clear c2
                                try clear p2
                                try clear c3
                                try clear c4
                                try clear c4b0
                                try clear c5
                                try clear c6
                                try clear c6b0
                                try clear p6
                                try clear c7
                                try clear c7b0
                                try clear p8
                                try clear q8
                                try clear hx8
                                try clear c12
                                try clear c12b0
                                try clear c14
                                try clear c14b0
                                try clear c15
                                try clear c15b0
                                try clear c16
                                try clear c18
                                try clear c18b0
                                try clear c18b1
                                try clear c20
                                try clear c21
                                try clear c23
                                try clear c23b0
                                try clear c24
                                try clear c24b0
                                try clear c25
                                try clear c27
                                try clear c28
                                try clear c28b0
                                try clear c28b1
                                try clear c29
                                try clear c30
                                try clear c30b0
                                try clear c30b1
                                try clear c31
                                try clear p2
                                try clear p6
                                try clear p8
                                try clear q8
                                obtain ⟨kq, x58_25, rfl, HA, HJ25, ⟨mc25, rfl⟩⟩ := hcut
                                cases kq with
                                | zero => exact absurd HA.out (by simp [quipuref11_Rune.j4])
                                | succ kj25 =>
                                  have H := HA.out
                                  clear HA
                                  simp only [quipuref11_Rune.j4] at H
                                  by_cases c32 : x58_25 = true
                                  · subst c32
                                    have H1 : (some 3) = some r := by rw [if_pos rfl] at H; exact H
                                    clear H
                                    have H := H1
                                    clear H1
                                    obtain rfl := Option.some.inj H
                                    go_wp2
                                    go_ret
                                    exact ⟨by first | rfl | (simp; done) | (simp [*]; done), by repeat (first | exact Drawn0.refl _ | apply Drawn0.step)⟩
                                  · replace c32 := Bool.eq_false_iff.mpr c32
                                    subst c32
                                    have H1 : (if (wrap64 (bt a0 a1)) = 237 then ((quipuref11_within.f a0 (wrap64 (a1 + 1)) 128 159).bind fun t135 => (if t135 = true then (quipuref11_Rune.j5 kj25 a0 a1 (wrap64 (bt a0 a1)) t131 t132 t133 t132) else (quipuref11_Rune.j5 kj25 a0 a1 (wrap64 (bt a0 a1)) t131 t132 t133 false))) else (quipuref11_Rune.j5 kj25 a0 a1 (wrap64 (bt a0 a1)) t131 t132 t133 false)) = some r := by rw [if_neg (show ¬ (false = true) by decide)] at H; exact H
                                    clear H
                                    have H := H1
                                    clear H1
                                    have HC33 := Aside0.mk H
                                    clear H
                                    go_upto_region 16 with (fail)
                                    go_cut [83] (fun v83 wc => ∃ (kq : Nat) (x83_32 : Bool), v83 = .bool x83_32 ∧ Aside0 (quipuref11_Rune.j5 kq a0 a1 (wrap64 (bt a0 a1)) t131 t132 t133 x83_32 = some r) ∧ Aside0 (kq ≤ kj25) ∧ Drawn0 w wc)
                                    case first =>
                                      have H := HC33.out
                                      clear HC33
                                      by_cases c34 : (wrap64 (bt a0 a1)) = 237
                                      · rw [if_pos c34] at H
                                        have c34b0 : ((wrap64 (bt a0 a1)) == 237) = true := beq_iff_eq.mpr c34
                                        have c34b1 : ((wrap64 (bt a0 a1)) != 237) = false := bne_eq_false_iff_eq.mpr c34
                                        clear c34
                                        (first | rw [c34b0] | (simp only [i64_w, i32_w]; rw [c34b0]) | skip)
                                        replace H := Option.bind_eq_some_iff.mp H
                                        obtain ⟨t135, A350, H⟩ := H
                                        replace H : (if t135 = true then (quipuref11_Rune.j5 kj25 a0 a1 (wrap64 (bt a0 a1)) t131 t132 t133 t132) else (quipuref11_Rune.j5 kj25 a0 a1 (wrap64 (bt a0 a1)) t131 t132 t133 false)) = some r := H
                                        have A35 := Aside0.mk A350
                                        clear A350
                                        by_cases c36 : t135 = true
                                        · subst c36
                                          have H1 : (quipuref11_Rune.j5 kj25 a0 a1 (wrap64 (bt a0 a1)) t131 t132 t133 t132) = some r := by rw [if_pos rfl] at H; exact H
                                          clear H
                                          have H := H1
                                          clear H1
                                          have H' := Aside0.mk H
                                          clear H
                                          go_wp2_with (first | (go_at_call 60; (with_reducible refine (quipuref11_within.calls a0 (wrap64 (a1 + 1)) 128 159 true _ A35.out).mono ?_); rintro e w' ⟨rfl, ⟨nd, rfl⟩⟩))
                                          go_meet
                                          case rel => exact ⟨_, (t132), (by first | rfl | (simp; done) | (simp [*]; done)), H', ⟨by have := HJ2.out; have := HJ12.out; have := HJ16.out; have := HJ21.out; have := HJ25.out; first | omega | exact Nat.le_refl _⟩, by repeat (first | exact Drawn0.refl _ | apply Drawn0.step)⟩
                                        · replace c36 := Bool.eq_false_iff.mpr c36
                                          subst c36
                                          have H1 : (quipuref11_Rune.j5 kj25 a0 a1 (wrap64 (bt a0 a1)) t131 t132 t133 false) = some r := by rw [if_neg (show ¬ (false = true) by decide)] at H; exact H
                                          clear H
                                          have H := H1
                                          clear H1
                                          have H' := Aside0.mk H
                                          clear H
                                          go_wp2_with (first | (go_at_call 60; (with_reducible refine (quipuref11_within.calls a0 (wrap64 (a1 + 1)) 128 159 false _ A35.out).mono ?_); rintro e w' ⟨rfl, ⟨nd, rfl⟩⟩))
                                          go_meet
                                          case rel => exact ⟨_, (false), (by first | rfl | (simp; done) | (simp [*]; done)), H', ⟨by have := HJ2.out; have := HJ12.out; have := HJ16.out; have := HJ21.out; have := HJ25.out; first | omega | exact Nat.le_refl _⟩, by repeat (first | exact Drawn0.refl _ | apply Drawn0.step)⟩
                                      · rw [if_neg c34] at H
                                        have c34b0 : ((wrap64 (bt a0 a1)) == 237) = false := beq_eq_false_iff_ne.mpr c34
                                        have c34b1 : ((wrap64 (bt a0 a1)) != 237) = true := bne_iff_ne.mpr c34
                                        (first | rw [c34b0] | (simp only [i64_w, i32_w]; rw [c34b0]) | skip)
                                        have H' := Aside0.mk H
                                        clear H
                                        go_wp2
                                        go_meet
                                        case rel => exact ⟨_, (false), (by first | rfl | (simp; done) | (simp [*]; done)), H', ⟨by have := HJ2.out; have := HJ12.out; have := HJ16.out; have := HJ21.out; have := HJ25.out; first | omega | exact Nat.le_refl _⟩, by repeat (first | exact Drawn0.refl _ | apply Drawn0.step)⟩
                                    case rest =>
                                      clear HC33
                                      try clear c1
                                      try clear c2
                                      try clear p2
                                      try clear c3
                                      try clear c4
                                      try clear c4b0
                                      try clear c5
                                      try clear c6
                                      try clear c6b0
                                      try clear p6
                                      try clear c7
                                      try clear c7b0
                                      try clear p8
                                      try clear q8
                                      try clear hx8
                                      try clear c12
                                      try clear c12b0
                                      try clear c14
                                      try clear c14b0
                                      try clear c15
                                      try clear c15b0
                                      try clear c16
                                      try clear c18
                                      try clear c18b0
                                      try clear c18b1
                                      try clear c20
                                      try clear c21
                                      try clear c23
                                      try clear c23b0
                                      try clear c24
                                      try clear c24b0
                                      try clear c25
                                      try clear c27
                                      try clear c28
                                      try clear c28b0
                                      try clear c28b1
                                      try clear c29
                                      try clear c30
                                      try clear c30b0
                                      try clear c30b1
                                      try clear c31
                                      try clear c32
                                      try clear c34
                                      try clear c34b0
                                      try clear c34b1
                                      try clear c36
                                      try clear p2
                                      try clear p6
                                      try clear p8
                                      try clear q8
                                      obtain ⟨kq, x83_32, rfl, HA, HJ32, ⟨mc32, rfl⟩⟩ := hcut
                                      cases kq with
                                      | zero => exact absurd HA.out (by simp [quipuref11_Rune.j5])
                                      | succ kj32 =>
                                        have H := HA.out
                                        clear HA
                                        simp only [quipuref11_Rune.j5] at H
                                        by_cases c37 : x83_32 = true
                                        · subst c37
                                          have H1 : (some 3) = some r := by rw [if_pos rfl] at H; exact H
                                          clear H
                                          have H := H1
                                          clear H1
                                          obtain rfl := Option.some.inj H
                                          go_wp2
                                          go_ret
                                          exact ⟨by first | rfl | (simp; done) | (simp [*]; done), by repeat (first | exact Drawn0.refl _ | apply Drawn0.step)⟩
                                        · replace c37 := Bool.eq_false_iff.mpr c37
                                          subst c37
                                          have H1 : (if (wrap64 (bt a0 a1)) = 240 then ((quipuref11_within.f a0 (wrap64 (a1 + 1)) 144 191).bind fun t136 => (if t136 = true then (if t132 = true then (quipuref11_Rune.j6 kj32 a0 a1 (wrap64 (bt a0 a1)) t131 t132 t133 t133) else (quipuref11_Rune.j6 kj32 a0 a1 (wrap64 (bt a0 a1)) t131 t132 t133 false)) else (quipuref11_Rune.j6 kj32 a0 a1 (wrap64 (bt a0 a1)) t131 t132 t133 false))) else (quipuref11_Rune.j6 kj32 a0 a1 (wrap64 (bt a0 a1)) t131 t132 t133 false)) = some r := by rw [if_neg (show ¬ (false = true) by decide)] at H; exact H
                                          clear H
                                          have H := H1
                                          clear H1
                                          have HC38 := Aside0.mk H
                                          clear H
                                          go_upto_region 18 with (fail)
                                          go_cut [95] (fun v95 wc => ∃ (kq : Nat) (x95_37 : Bool), v95 = .bool x95_37 ∧ Aside0 (quipuref11_Rune.j6 kq a0 a1 (wrap64 (bt a0 a1)) t131 t132 t133 x95_37 = some r) ∧ Aside0 (kq ≤ kj32) ∧ Drawn0 w wc)
                                          case first =>
                                            have H := HC38.out
                                            clear HC38
                                            by_cases c39 : (wrap64 (bt a0 a1)) = 240
                                            · rw [if_pos c39] at H
                                              have c39b0 : ((wrap64 (bt a0 a1)) == 240) = true := beq_iff_eq.mpr c39
                                              have c39b1 : ((wrap64 (bt a0 a1)) != 240) = false := bne_eq_false_iff_eq.mpr c39
                                              clear c39
                                              (first | rw [c39b0] | (simp only [i64_w, i32_w]; rw [c39b0]) | skip)
                                              replace H := Option.bind_eq_some_iff.mp H
                                              obtain ⟨t136, A400, H⟩ := H
                                              replace H : (if t136 = true then (if t132 = true then (quipuref11_Rune.j6 kj32 a0 a1 (wrap64 (bt a0 a1)) t131 t132 t133 t133) else (quipuref11_Rune.j6 kj32 a0 a1 (wrap64 (bt a0 a1)) t131 t132 t133 false)) else (quipuref11_Rune.j6 kj32 a0 a1 (wrap64 (bt a0 a1)) t131 t132 t133 false)) = some r := H
                                              have A40 := Aside0.mk A400
                                              clear A400
                                              by_cases c41 : t136 = true
                                              · subst c41
                                                have H1 : (if t132 = true then (quipuref11_Rune.j6 kj32 a0 a1 (wrap64 (bt a0 a1)) t131 t132 t133 t133) else (quipuref11_Rune.j6 kj32 a0 a1 (wrap64 (bt a0 a1)) t131 t132 t133 false)) = some r := by rw [if_pos rfl] at H; exact H
                                                clear H
                                                have H := H1
                                                clear H1
                                                by_cases c42 : t132 = true
                                                · subst c42
                                                  have H1 : (quipuref11_Rune.j6 kj32 a0 a1 (wrap64 (bt a0 a1)) t131 true t133 t133) = some r := by rw [if_pos rfl] at H; exact H
                                                  clear H
                                                  have H := H1
                                                  clear H1
                                                  have H' := Aside0.mk H
                                                  clear H
                                                  go_wp2_with (first | (go_at_call 60; (with_reducible refine (quipuref11_within.calls a0 (wrap64 (a1 + 1)) 144 191 true _ A40.out).mono ?_); rintro e w' ⟨rfl, ⟨nd, rfl⟩⟩))
                                                  go_meet
                                                  case rel => exact ⟨_, (t133), (by first | rfl | (simp; done) | (simp [*]; done)), H', ⟨by have := HJ2.out; have := HJ12.out; have := HJ16.out; have := HJ21.out; have := HJ25.out; have := HJ32.out; first | omega | exact Nat.le_refl _⟩, by repeat (first | exact Drawn0.refl _ | apply Drawn0.step)⟩
                                                · replace c42 := Bool.eq_false_iff.mpr c42
                                                  subst c42
                                                  have H1 : (quipuref11_Rune.j6 kj32 a0 a1 (wrap64 (bt a0 a1)) t131 false t133 false) = some r := by rw [if_neg (show ¬ (false = true) by decide)] at H; exact H
                                                  clear H
                                                  have H := H1
                                                  clear H1
                                                  have H' := Aside0.mk H
                                                  clear H
                                                  go_wp2_with (first | (go_at_call 60; (with_reducible refine (quipuref11_within.calls a0 (wrap64 (a1 + 1)) 144 191 true _ A40.out).mono ?_); rintro e w' ⟨rfl, ⟨nd, rfl⟩⟩))
                                                  go_meet
                                                  case rel => exact ⟨_, (false), (by first | rfl | (simp; done) | (simp [*]; done)), H', ⟨by have := HJ2.out; have := HJ12.out; have := HJ16.out; have := HJ21.out; have := HJ25.out; have := HJ32.out; first | omega | exact Nat.le_refl _⟩, by repeat (first | exact Drawn0.refl _ | apply Drawn0.step)⟩
                                              · replace c41 := Bool.eq_false_iff.mpr c41
                                                subst c41
                                                have H1 : (quipuref11_Rune.j6 kj32 a0 a1 (wrap64 (bt a0 a1)) t131 t132 t133 false) = some r := by rw [if_neg (show ¬ (false = true) by decide)] at H; exact H
                                                clear H
                                                have H := H1
                                                clear H1
                                                have H' := Aside0.mk H
                                                clear H
                                                go_wp2_with (first | (go_at_call 60; (with_reducible refine (quipuref11_within.calls a0 (wrap64 (a1 + 1)) 144 191 false _ A40.out).mono ?_); rintro e w' ⟨rfl, ⟨nd, rfl⟩⟩))
                                                go_meet
                                                case rel => exact ⟨_, (false), (by first | rfl | (simp; done) | (simp [*]; done)), H', ⟨by have := HJ2.out; have := HJ12.out; have := HJ16.out; have := HJ21.out; have := HJ25.out; have := HJ32.out; first | omega | exact Nat.le_refl _⟩, by repeat (first | exact Drawn0.refl _ | apply Drawn0.step)⟩
                                            · rw [if_neg c39] at H
                                              have c39b0 : ((wrap64 (bt a0 a1)) == 240) = false := beq_eq_false_iff_ne.mpr c39
                                              have c39b1 : ((wrap64 (bt a0 a1)) != 240) = true := bne_iff_ne.mpr c39
                                              (first | rw [c39b0] | (simp only [i64_w, i32_w]; rw [c39b0]) | skip)
                                              have H' := Aside0.mk H
                                              clear H
                                              go_wp2
                                              go_meet
                                              case rel => exact ⟨_, (false), (by first | rfl | (simp; done) | (simp [*]; done)), H', ⟨by have := HJ2.out; have := HJ12.out; have := HJ16.out; have := HJ21.out; have := HJ25.out; have := HJ32.out; first | omega | exact Nat.le_refl _⟩, by repeat (first | exact Drawn0.refl _ | apply Drawn0.step)⟩
                                          case rest =>
                                            clear HC38
                                            try clear c1
                                            try clear c2
                                            try clear p2
                                            try clear c3
                                            try clear c4
                                            try clear c4b0
                                            try clear c5
                                            try clear c6
                                            try clear c6b0
                                            try clear p6
                                            try clear c7
                                            try clear c7b0
                                            try clear p8
                                            try clear q8
                                            try clear hx8
                                            try clear c12
                                            try clear c12b0
                                            try clear c14
                                            try clear c14b0
                                            try clear c15
                                            try clear c15b0
                                            try clear c16
                                            try clear c18
                                            try clear c18b0
                                            try clear c18b1
                                            try clear c20
                                            try clear c21
                                            try clear c23
                                            try clear c23b0
                                            try clear c24
                                            try clear c24b0
                                            try clear c25
                                            try clear c27
                                            try clear c28
                                            try clear c28b0
                                            try clear c28b1
                                            try clear c29
                                            try clear c30
                                            try clear c30b0
                                            try clear c30b1
                                            try clear c31
                                            try clear c32
                                            try clear c34
                                            try clear c34b0
                                            try clear c34b1
                                            try clear c36
                                            try clear c37
                                            try clear c39
                                            try clear c39b0
                                            try clear c39b1
                                            try clear c41
                                            try clear c42
                                            try clear p2
                                            try clear p6
                                            try clear p8
                                            try clear q8
                                            obtain ⟨kq, x95_37, rfl, HA, HJ37, ⟨mc37, rfl⟩⟩ := hcut
                                            cases kq with
                                            | zero => exact absurd HA.out (by simp [quipuref11_Rune.j6])
                                            | succ kj37 =>
                                              have H := HA.out
                                              clear HA
                                              simp only [quipuref11_Rune.j6] at H
                                              by_cases c43 : x95_37 = true
                                              · subst c43
                                                have H1 : (some 4) = some r := by rw [if_pos rfl] at H; exact H
                                                clear H
                                                have H := H1
                                                clear H1
                                                obtain rfl := Option.some.inj H
                                                go_wp2
                                                go_ret
                                                exact ⟨by first | rfl | (simp; done) | (simp [*]; done), by repeat (first | exact Drawn0.refl _ | apply Drawn0.step)⟩
                                              · replace c43 := Bool.eq_false_iff.mpr c43
                                                subst c43
                                                have H1 : (if (wrap64 (bt a0 a1)) ≥ 241 then (if (wrap64 (bt a0 a1)) ≤ 243 then (if t131 = true then (if t132 = true then (quipuref11_Rune.j7 kj37 a0 a1 (wrap64 (bt a0 a1)) t132 t133 t133) else (quipuref11_Rune.j7 kj37 a0 a1 (wrap64 (bt a0 a1)) t132 t133 false)) else (quipuref11_Rune.j7 kj37 a0 a1 (wrap64 (bt a0 a1)) t132 t133 false)) else (quipuref11_Rune.j7 kj37 a0 a1 (wrap64 (bt a0 a1)) t132 t133 false)) else (quipuref11_Rune.j7 kj37 a0 a1 (wrap64 (bt a0 a1)) t132 t133 false)) = some r := by rw [if_neg (show ¬ (false = true) by decide)] at H; exact H
                                                clear H
                                                have H := H1
                                                clear H1
                                                have HC44 := Aside0.mk H
                                                clear H
                                                go_upto_region 20 with (fail)
                                                go_cut [110] (fun v110 wc => ∃ (kq : Nat) (x110_43 : Bool), v110 = .bool x110_43 ∧ Aside0 (quipuref11_Rune.j7 kq a0 a1 (wrap64 (bt a0 a1)) t132 t133 x110_43 = some r) ∧ Aside0 (kq ≤ kj37) ∧ Drawn0 w wc)
                                                case first =>
                                                  have H := HC44.out
                                                  clear HC44
                                                  by_cases c45 : (wrap64 (bt a0 a1)) ≥ 241
                                                  · rw [if_pos c45] at H
                                                    have c45b0 : decide (241 ≤ (wrap64 (bt a0 a1))) = true := decide_eq_true c45
                                                    clear c45
                                                    (first | rw [c45b0] | (simp only [i64_w, i32_w]; rw [c45b0]) | skip)
                                                    by_cases c46 : (wrap64 (bt a0 a1)) ≤ 243
                                                    · rw [if_pos c46] at H
                                                      have c46b0 : decide ((wrap64 (bt a0 a1)) ≤ 243) = true := decide_eq_true c46
                                                      clear c46
                                                      by_cases c47 : t131 = true
                                                      · subst c47
                                                        have H1 : (if t132 = true then (quipuref11_Rune.j7 kj37 a0 a1 (wrap64 (bt a0 a1)) t132 t133 t133) else (quipuref11_Rune.j7 kj37 a0 a1 (wrap64 (bt a0 a1)) t132 t133 false)) = some r := by rw [if_pos rfl] at H; exact H
                                                        clear H
                                                        have H := H1
                                                        clear H1
                                                        by_cases c48 : t132 = true
                                                        · subst c48
                                                          have H1 : (quipuref11_Rune.j7 kj37 a0 a1 (wrap64 (bt a0 a1)) true t133 t133) = some r := by rw [if_pos rfl] at H; exact H
                                                          clear H
                                                          have H := H1
                                                          clear H1
                                                          have H' := Aside0.mk H
                                                          clear H
                                                          go_wp2
                                                          go_meet
                                                          case rel => exact ⟨_, (t133), (by first | rfl | (simp; done) | (simp [*]; done)), H', ⟨by have := HJ2.out; have := HJ12.out; have := HJ16.out; have := HJ21.out; have := HJ25.out; have := HJ32.out; have := HJ37.out; first | omega | exact Nat.le_refl _⟩, by repeat (first | exact Drawn0.refl _ | apply Drawn0.step)⟩
                                                        · replace c48 := Bool.eq_false_iff.mpr c48
                                                          subst c48
                                                          have H1 : (quipuref11_Rune.j7 kj37 a0 a1 (wrap64 (bt a0 a1)) false t133 false) = some r := by rw [if_neg (show ¬ (false = true) by decide)] at H; exact H
                                                          clear H
                                                          have H := H1
                                                          clear H1
                                                          have H' := Aside0.mk H
                                                          clear H
                                                          go_wp2
                                                          go_meet
                                                          case rel => exact ⟨_, (false), (by first | rfl | (simp; done) | (simp [*]; done)), H', ⟨by have := HJ2.out; have := HJ12.out; have := HJ16.out; have := HJ21.out; have := HJ25.out; have := HJ32.out; have := HJ37.out; first | omega | exact Nat.le_refl _⟩, by repeat (first | exact Drawn0.refl _ | apply Drawn0.step)⟩
                                                      · replace c47 := Bool.eq_false_iff.mpr c47
                                                        subst c47
                                                        have H1 : (quipuref11_Rune.j7 kj37 a0 a1 (wrap64 (bt a0 a1)) t132 t133 false) = some r := by rw [if_neg (show ¬ (false = true) by decide)] at H; exact H
                                                        clear H
                                                        have H := H1
                                                        clear H1
                                                        have H' := Aside0.mk H
                                                        clear H
                                                        go_wp2
                                                        go_meet
                                                        case rel => exact ⟨_, (false), (by first | rfl | (simp; done) | (simp [*]; done)), H', ⟨by have := HJ2.out; have := HJ12.out; have := HJ16.out; have := HJ21.out; have := HJ25.out; have := HJ32.out; have := HJ37.out; first | omega | exact Nat.le_refl _⟩, by repeat (first | exact Drawn0.refl _ | apply Drawn0.step)⟩
                                                    · rw [if_neg c46] at H
                                                      have c46b0 : decide ((wrap64 (bt a0 a1)) ≤ 243) = false := decide_eq_false c46
                                                      clear c46
                                                      have H' := Aside0.mk H
                                                      clear H
                                                      go_wp2
                                                      go_meet
                                                      case rel => exact ⟨_, (false), (by first | rfl | (simp; done) | (simp [*]; done)), H', ⟨by have := HJ2.out; have := HJ12.out; have := HJ16.out; have := HJ21.out; have := HJ25.out; have := HJ32.out; have := HJ37.out; first | omega | exact Nat.le_refl _⟩, by repeat (first | exact Drawn0.refl _ | apply Drawn0.step)⟩
                                                  · rw [if_neg c45] at H
                                                    have c45b0 : decide (241 ≤ (wrap64 (bt a0 a1))) = false := decide_eq_false c45
                                                    clear c45
                                                    (first | rw [c45b0] | (simp only [i64_w, i32_w]; rw [c45b0]) | skip)
                                                    have H' := Aside0.mk H
                                                    clear H
                                                    go_wp2
                                                    go_meet
                                                    case rel => exact ⟨_, (false), (by first | rfl | (simp; done) | (simp [*]; done)), H', ⟨by have := HJ2.out; have := HJ12.out; have := HJ16.out; have := HJ21.out; have := HJ25.out; have := HJ32.out; have := HJ37.out; first | omega | exact Nat.le_refl _⟩, by repeat (first | exact Drawn0.refl _ | apply Drawn0.step)⟩
                                                case rest =>
                                                  clear HC44
                                                  try clear c1
                                                  try clear c2
                                                  try clear p2
                                                  try clear c3
                                                  try clear c4
                                                  try clear c4b0
                                                  try clear c5
                                                  try clear c6
                                                  try clear c6b0
                                                  try clear p6
                                                  try clear c7
                                                  try clear c7b0
                                                  try clear p8
                                                  try clear q8
                                                  try clear hx8
                                                  try clear c12
                                                  try clear c12b0
                                                  try clear c14
                                                  try clear c14b0
                                                  try clear c15
                                                  try clear c15b0
                                                  try clear c16
                                                  try clear c18
                                                  try clear c18b0
                                                  try clear c18b1
                                                  try clear c20
                                                  try clear c21
                                                  try clear c23
                                                  try clear c23b0
                                                  try clear c24
                                                  try clear c24b0
                                                  try clear c25
                                                  try clear c27
                                                  try clear c28
                                                  try clear c28b0
                                                  try clear c28b1
                                                  try clear c29
                                                  try clear c30
                                                  try clear c30b0
                                                  try clear c30b1
                                                  try clear c31
                                                  try clear c32
                                                  try clear c34
                                                  try clear c34b0
                                                  try clear c34b1
                                                  try clear c36
                                                  try clear c37
                                                  try clear c39
                                                  try clear c39b0
                                                  try clear c39b1
                                                  try clear c41
                                                  try clear c42
                                                  try clear c43
                                                  try clear c45
                                                  try clear c45b0
                                                  try clear c46
                                                  try clear c46b0
                                                  try clear c47
                                                  try clear c48
                                                  try clear p2
                                                  try clear p6
                                                  try clear p8
                                                  try clear q8
                                                  obtain ⟨kq, x110_43, rfl, HA, HJ43, ⟨mc43, rfl⟩⟩ := hcut
                                                  cases kq with
                                                  | zero => exact absurd HA.out (by simp [quipuref11_Rune.j7])
                                                  | succ kj43 =>
                                                    have H := HA.out
                                                    clear HA
                                                    simp only [quipuref11_Rune.j7] at H
                                                    by_cases c49 : x110_43 = true
                                                    · subst c49
                                                      have H1 : (some 4) = some r := by rw [if_pos rfl] at H; exact H
                                                      clear H
                                                      have H := H1
                                                      clear H1
                                                      obtain rfl := Option.some.inj H
                                                      go_wp2
                                                      go_ret
                                                      exact ⟨by first | rfl | (simp; done) | (simp [*]; done), by repeat (first | exact Drawn0.refl _ | apply Drawn0.step)⟩
                                                    · replace c49 := Bool.eq_false_iff.mpr c49
                                                      subst c49
                                                      have H1 : (if (wrap64 (bt a0 a1)) = 244 then ((quipuref11_within.f a0 (wrap64 (a1 + 1)) 128 143).bind fun t137 => (if t137 = true then (if t132 = true then (if t133 = true then (some 4) else (some 0)) else (some 0)) else (some 0))) else (some 0)) = some r := by rw [if_neg (show ¬ (false = true) by decide)] at H; exact H
                                                      clear H
                                                      have H := H1
                                                      clear H1
                                                      by_cases c50 : (wrap64 (bt a0 a1)) = 244
                                                      · rw [if_pos c50] at H
                                                        have c50b0 : ((wrap64 (bt a0 a1)) == 244) = true := beq_iff_eq.mpr c50
                                                        have c50b1 : ((wrap64 (bt a0 a1)) != 244) = false := bne_eq_false_iff_eq.mpr c50
                                                        clear c50
                                                        replace H := Option.bind_eq_some_iff.mp H
                                                        obtain ⟨t137, A510, H⟩ := H
                                                        replace H : (if t137 = true then (if t132 = true then (if t133 = true then (some 4) else (some 0)) else (some 0)) else (some 0)) = some r := H
                                                        have A51 := Aside0.mk A510
                                                        clear A510
                                                        by_cases c52 : t137 = true
                                                        · subst c52
                                                          have H1 : (if t132 = true then (if t133 = true then (some 4) else (some 0)) else (some 0)) = some r := by rw [if_pos rfl] at H; exact H
                                                          clear H
                                                          have H := H1
                                                          clear H1
                                                          by_cases c53 : t132 = true
                                                          · subst c53
                                                            have H1 : (if t133 = true then (some 4) else (some 0)) = some r := by rw [if_pos rfl] at H; exact H
                                                            clear H
                                                            have H := H1
                                                            clear H1
                                                            by_cases c54 : t133 = true
                                                            · subst c54
                                                              have H1 : (some 4) = some r := by rw [if_pos rfl] at H; exact H
                                                              clear H
                                                              have H := H1
                                                              clear H1
                                                              obtain rfl := Option.some.inj H
                                                              go_wp2_with (first | (go_at_call 60; (with_reducible refine (quipuref11_within.calls a0 (wrap64 (a1 + 1)) 128 143 true _ A51.out).mono ?_); rintro e w' ⟨rfl, ⟨nd, rfl⟩⟩))
                                                              go_ret
                                                              exact ⟨by first | rfl | (simp; done) | (simp [*]; done), by repeat (first | exact Drawn0.refl _ | apply Drawn0.step)⟩
                                                            · replace c54 := Bool.eq_false_iff.mpr c54
                                                              subst c54
                                                              have H1 : (some 0) = some r := by rw [if_neg (show ¬ (false = true) by decide)] at H; exact H
                                                              clear H
                                                              have H := H1
                                                              clear H1
                                                              obtain rfl := Option.some.inj H
                                                              go_wp2_with (first | (go_at_call 60; (with_reducible refine (quipuref11_within.calls a0 (wrap64 (a1 + 1)) 128 143 true _ A51.out).mono ?_); rintro e w' ⟨rfl, ⟨nd, rfl⟩⟩))
                                                              go_ret
                                                              exact ⟨by first | rfl | (simp; done) | (simp [*]; done), by repeat (first | exact Drawn0.refl _ | apply Drawn0.step)⟩
                                                          · replace c53 := Bool.eq_false_iff.mpr c53
                                                            subst c53
                                                            have H1 : (some 0) = some r := by rw [if_neg (show ¬ (false = true) by decide)] at H; exact H
                                                            clear H
                                                            have H := H1
                                                            clear H1
                                                            obtain rfl := Option.some.inj H
                                                            go_wp2_with (first | (go_at_call 60; (with_reducible refine (quipuref11_within.calls a0 (wrap64 (a1 + 1)) 128 143 true _ A51.out).mono ?_); rintro e w' ⟨rfl, ⟨nd, rfl⟩⟩))
                                                            go_ret
                                                            exact ⟨by first | rfl | (simp; done) | (simp [*]; done), by repeat (first | exact Drawn0.refl _ | apply Drawn0.step)⟩
                                                        · replace c52 := Bool.eq_false_iff.mpr c52
                                                          subst c52
                                                          have H1 : (some 0) = some r := by rw [if_neg (show ¬ (false = true) by decide)] at H; exact H
                                                          clear H
                                                          have H := H1
                                                          clear H1
                                                          obtain rfl := Option.some.inj H
                                                          go_wp2_with (first | (go_at_call 60; (with_reducible refine (quipuref11_within.calls a0 (wrap64 (a1 + 1)) 128 143 false _ A51.out).mono ?_); rintro e w' ⟨rfl, ⟨nd, rfl⟩⟩))
                                                          go_ret
                                                          exact ⟨by first | rfl | (simp; done) | (simp [*]; done), by repeat (first | exact Drawn0.refl _ | apply Drawn0.step)⟩
                                                      · rw [if_neg c50] at H
                                                        have c50b0 : ((wrap64 (bt a0 a1)) == 244) = false := beq_eq_false_iff_ne.mpr c50
                                                        have c50b1 : ((wrap64 (bt a0 a1)) != 244) = true := bne_iff_ne.mpr c50
                                                        obtain rfl := Option.some.inj H
                                                        go_wp2
                                                        go_ret
                                                        exact ⟨by first | rfl | (simp; done) | (simp [*]; done), by repeat (first | exact Drawn0.refl _ | apply Drawn0.step)⟩
          · rw [if_neg c7] at H
            exact absurd H (by simp)
        · rw [if_neg c6] at H
          exact absurd H (by simp)

end Go.Proofs.Ytieipeigjhicfaa.Q
