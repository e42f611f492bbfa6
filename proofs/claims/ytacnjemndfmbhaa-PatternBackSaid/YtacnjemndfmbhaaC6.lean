import Derived.Test.YtacnjemndfmbhaaProg
import Derived.Below
import Derived.Deep.Draws
import Derived.Deep.AppendLies
import Derived.Maps.AppendAt
import Derived.OwnWalk
import Derived.Laws.BytesArg
import Derived.Laws.MakeOwn
import Derived.Laws.OwnMore
import Derived.Deep.OwnRows
import Derived.Tactics
import Derived.Lib.ConvBytes
import Derived.Laws.Slices
import Derived.WalkKit
import Derived.KernelRfl
import Derived.RowKit3
import Derived.Deep.LoopGhost
import Derived.Deep.QuietTactic
import Derived.BigQuiet
import Derived.WideLaws
import Derived.Deep.DeepCutAuto
import Derived.Deep.CutBlock
import Derived.Deep.RegionHeld3
import Derived.Laws.Rows
import Derived.Lib.AppendStr
import Derived.ArgAppend
import Derived.Laws.IdiomCopy
import Derived.OrdersHeld
import Derived.Laws.BitsLemmas
import Derived.RowKit
import Derived.Lib.Hide
import Derived.Deep.RegionLaw
import Derived.Laws.Cover3
import Derived.Lib.Strings
import Derived.Lib.Slices
import Derived.Lib.Small
import Derived.Lib.Walk
import Derived.Test.YtacnjemndfmbhaaC0
import Derived.Test.YtacnjemndfmbhaaC1
import Derived.Test.YtacnjemndfmbhaaC2
import Derived.Test.YtacnjemndfmbhaaC3
import Derived.Test.YtacnjemndfmbhaaC4
import Derived.Test.YtacnjemndfmbhaaC5
namespace Go.Proofs.Ytacnjemndfmbhaa
open Go.RowKit
theorem aP1 {p : Prop} (h : p := by
    obtain rfl := Option.some.inj H
    have p15 : 0 ≤ ((ji12) : Int) := of_decide_eq_true (by first | (with_reducible assumption) | assumption)
    have q15 : (ji12) < (a0.size : Int) := of_decide_eq_true (by first | (with_reducible assumption) | assumption)
    have hx15 := bt_at a0 (ji12)
    replace p15 := eq_true p15
    replace q15 := eq_true q15
    go_wp2
    go_ret
    exact ⟨by first | rfl | (simp; done) | (simp only [← hji12] <;> (first | rfl | simp)) | (simp [*]; done), by repeat (first | exact Drawn0.refl _ | apply Drawn0.step)⟩) : p := h
theorem aP28 {p : Prop} (h : p := by (try simp only [List.map_toArray, List.map_cons, List.map_nil]); first | done | rfl | (simp only [List.length_drop, List.length_take]; rfl)) : p := h
theorem aP27 {p : Prop} (h : p := by first | (with_reducible assumption) | assumption) : p := h
theorem aP26 {p : Prop} (h : p := by rw [if_neg (show ¬ (false = true) by decide)] at H; exact H) : p := h
theorem aP0 {p : Prop} (h : p := by
    obtain rfl := Option.some.inj H
    go_wp2
    go_ret
    exact ⟨by first | rfl | (simp; done) | (simp [*]; done), by repeat (first | exact Drawn0.refl _ | apply Drawn0.step)⟩) : p := h
theorem aP25 {p : Prop} (h : p := by repeat (first | exact Drawn0.refl _ | apply Drawn0.step)) : p := h
theorem aP24 {p : Prop} (h : p := by first | rfl | (simp; done) | (simp [*]; done)) : p := h
theorem aP2 {p : Prop} (h : p := by
    simp only [Option.some.injEq, Prod.mk.injEq] at H
    obtain ⟨rfl, rfl, rfl⟩ := H
    go_enter Try.func83, Try.ntmps83
    go_wp2
    go_ret3
    exact ⟨by first | rfl | (simp; done) | (simp [*]; done), by repeat (first | exact Drawn0.refl _ | apply Drawn0.step)⟩) : p := h
end Go.Proofs.Ytacnjemndfmbhaa
section
namespace Go.Proofs.Ytacnjemndfmbhaa.Q
open Go.RowKit Go.Proofs.YtacnjemndfmbhaaW.PrintWords Go.Proofs.YtacnjemndfmbhaaW.PrintLast Go.Proofs.YtacnjemndfmbhaaW.PrintMore
attribute [local go_sem] max2_int min2_int max_two min_two max_three min_three max_four min_four   -- for this text's walks alone
set_option linter.unusedVariables false
set_option linter.unusedSimpArgs false



def errW : Option Int → Value
  | none => .nilIface
  | some c => .iface 0 (.int .i64 c)
theorem errW_none : errW none = .nilIface := rfl
theorem errW_some (c : Int) : errW (some c) = .iface 0 (.int .i64 c) := rfl

theorem info53 : (Try.prog.info? 53).map (fun i => (i.zero, i.size, i.bytes)) = some (some (.agg #[(.int .i64 0), (.int .i64 0), (.string ⟨#[]⟩)]), 3, 32) := by kernel_rfl
structure S53 where
  f0 : Int
  f1 : Int
  f2 : ByteArray
def z53 : S53 := ⟨(0 : Int), (0 : Int), (⟨#[]⟩ : ByteArray)⟩
def k53 : Kd S53 := Kd.iso (Kd.pair (Kd.int .i64) (Kd.pair (Kd.int .i64) Kd.string)) (fun x : S53 => (x.f0, x.f1, x.f2))
theorem k53_open {w : World} {x : S53} {cs : List Value} (h : k53.K w x cs) : cs = [.int .i64 x.f0, .int .i64 x.f1, .string x.f2] := by
  obtain ⟨_, _, rfl, rfl, ⟨_, _, rfl, rfl, rfl⟩⟩ := h
  exact rfl
theorem k53_openM {w : World} {base : Nat} {ok : Nat → Prop} {x : S53} {cs : List Value} (h : k53.M w base ok x cs) : cs = [.int .i64 x.f0, .int .i64 x.f1, .string x.f2] := by
  obtain ⟨_, _, rfl, rfl, ⟨_, _, rfl, rfl, rfl⟩⟩ := h
  exact rfl
theorem k53_mk (w : World) (x : S53)  : k53.K w x [.int .i64 x.f0, .int .i64 x.f1, .string x.f2] := ⟨[.int .i64 x.f0], [.int .i64 x.f1, .string x.f2], rfl, rfl, ⟨[.int .i64 x.f1], [.string x.f2], rfl, rfl, rfl⟩⟩
theorem k53_mkM (w : World) (base : Nat) (ok : Nat → Prop) (x : S53)  : k53.M w base ok x [.int .i64 x.f0, .int .i64 x.f1, .string x.f2] := ⟨[.int .i64 x.f0], [.int .i64 x.f1, .string x.f2], rfl, rfl, ⟨[.int .i64 x.f1], [.string x.f2], rfl, rfl, rfl⟩⟩
def rd_T53 (xs : List S53) (i : Int) : S53 := xs.getD i.toNat z53
theorem at_T53 {w : World} {A : Option Addr} {n : Nat} {xs : List S53} (h : Kd.C k53 w A n xs) (i : Int) (h0 : 0 ≤ i) (h1 : i < n) : ∃ ad , A = some ad ∧ w.cell? (ad.add (i.toNat * 3)) = some (.int .i64 (rd_T53 xs i).f0) ∧ w.cell? ⟨(ad.add (i.toNat * 3)).block, (ad.add (i.toNat * 3)).off + 1, none⟩ = some (.int .i64 (rd_T53 xs i).f1) ∧ w.cell? ⟨(ad.add (i.toNat * 3)).block, (ad.add (i.toNat * 3)).off + 2, none⟩ = some (.string (rd_T53 xs i).f2) := by
  obtain ⟨ad, c, e, _, hK, hc0⟩ := Kd.C_get h z53 i h0 h1
  have hc : ∀ j u, c[j]? = some u → w.cell? (ad.add (i.toNat * 3 + j)) = some u := hc0
  obtain rfl := k53_open hK
  exact ⟨ad, e, hc 0 _ rfl, by rw [← add_field _ _ 1 (by omega)]; exact hc 1 _ rfl, by rw [← add_field _ _ 2 (by omega)]; exact hc 2 _ rfl⟩

end Go.Proofs.Ytacnjemndfmbhaa.Q
end
section
namespace Go.Proofs.Ytacnjemndfmbhaa.Q
open Go.RowKit Go.Proofs.YtacnjemndfmbhaaW.PrintWords Go.Proofs.YtacnjemndfmbhaaW.PrintLast Go.Proofs.YtacnjemndfmbhaaW.PrintMore
attribute [local go_sem] max2_int min2_int max_two min_two max_three min_three max_four min_four
set_option linter.unusedVariables false
set_option linter.unusedSimpArgs false
instance (a b : S53) : Decidable (a = b) :=
  if h : a.f0 = b.f0 ∧ a.f1 = b.f1 ∧ a.f2 = b.f2 then isTrue (by cases a; cases b; obtain ⟨h0, h1, h2⟩ := h; simp_all) else isFalse (by rintro rfl; exact h ⟨rfl, rfl, rfl⟩)
structure Sb where
  p : List S53
  s : List S53
  im : Int
  fn : Int
  fx : Int
  pr : Int
  se : Int
  em : Int
  ep : Bool
  pad : ByteArray
  pa : Int
  wd : Int
structure Sl where
  A : Option Addr
  c : Nat
  B : Option Addr
  d : Nat
@[reducible] def subV (L : Sl) (x : Sb) : Value := .agg #[.slice L.A x.p.length L.c, .slice L.B x.s.length L.d, .int .i64 x.im, .int .i64 x.fn, .int .i64 x.fx, .int .i64 x.pr, .int .i64 x.se, .int .i64 x.em, .bool x.ep, .string x.pad, .int .i64 x.pa, .int .i64 x.wd]
@[reducible] def subC (L : Sl) (x : Sb) : Array Value := #[.slice L.A x.p.length L.c, .slice L.B x.s.length L.d, .int .i64 x.im, .int .i64 x.fn, .int .i64 x.fx, .int .i64 x.pr, .int .i64 x.se, .int .i64 x.em, .bool x.ep, .string x.pad, .int .i64 x.pa, .int .i64 x.wd]
structure SubR (w : World) (L : Sl) (x : Sb) : Prop where
  p : Kd.C k53 w L.A x.p.length x.p
  pc : x.p.length ≤ L.c
  s : Kd.C k53 w L.B x.s.length x.s
  sc : x.s.length ≤ L.d
  pl : x.p.length < 4398046511104
  sl : x.s.length < 4398046511104
theorem SubR.below {w w1 : World} {L : Sl} {x : Sb} (h : SubR w L x) (hb : Below w.heap.size w w1) : SubR w1 L x := ⟨Kd.C_below h.p hb, h.pc, Kd.C_below h.s hb, h.sc, h.pl, h.sl⟩
def inB (a b c : Int) : Bool := decide (b ≤ a) && decide (a ≤ c)
theorem ret_int {k : IntKind} {a b : Int} (h : a = b) : Ending.returned (.int k a) = .returned (.int k b) := by rw [h]
theorem ret_bool {a b : Bool} (h : a = b) : Ending.returned (.bool a) = .returned (.bool b) := by rw [h]
theorem ret_str {a b : ByteArray} (h : a = b) : Ending.returned (.string a) = .returned (.string b) := by rw [h]
theorem in_calls (a b c : Int) (w : World) : Calls Try.prog 34 #[.int .i64 a, .int .i64 b, .int .i64 c] w fun e w' => e = .returned (.bool (inB a b c)) ∧ w = w' := by
  by_cases h1 : b ≤ a
  · have d1 := decide_eq_true h1
    clear h1
    go_enter Try.func34, Try.ntmps34
    go_wp2
    go_ret
    exact ⟨by unfold inB; rw [d1]; rfl, rfl⟩
  · have d1 := decide_eq_false h1
    clear h1
    go_enter Try.func34, Try.ntmps34
    go_wp2
    go_ret
    exact ⟨by unfold inB; rw [d1]; rfl, rfl⟩
def zeroB (x : Sb) : Bool := x.p.length == 0 && (x.s.length == 0 && (x.im == 0 && (x.fn == 0 && (x.fx == 0 && (x.pr == 0 && (x.se == 0 && (x.em == 0 && (!x.ep && (x.pad.toList.isEmpty && (x.pa == 0 && x.wd == 0))))))))))
theorem int_len (n : Nat) : ((n : Int) == 0) = (n == 0) := by
  by_cases h : n = 0
  · subst h; rfl
  · rw [beq_eq_false_iff_ne.mpr h, beq_eq_false_iff_ne.mpr (by omega)]
set_option maxHeartbeats 8000000 in
set_option maxRecDepth 100000 in
theorem zero_calls (L : Sl) (x : Sb) (w : World) : Calls Try.prog 24 #[subV L x] w fun e w' => e = .returned (.bool (zeroB x)) ∧ Below w.heap.size w w' := by
  have e1 := int_len x.p.length
  have e2 := int_len x.s.length
  by_cases h0 : (x.p.length == 0) = true
  case neg => (rw [Bool.not_eq_true] at h0; go_enter Try.func24, Try.ntmps24; go_wp2; go_ret; exact ⟨by simp [zeroB, *], below_alloc (Below.refl _ _) _⟩)
  by_cases h1 : (x.s.length == 0) = true
  case neg => (rw [Bool.not_eq_true] at h1; go_enter Try.func24, Try.ntmps24; go_wp2; go_ret; exact ⟨by simp [zeroB, *], below_alloc (Below.refl _ _) _⟩)
  by_cases h2 : (x.im == 0) = true
  case neg => (rw [Bool.not_eq_true] at h2; go_enter Try.func24, Try.ntmps24; go_wp2; go_ret; exact ⟨by simp [zeroB, *], below_alloc (Below.refl _ _) _⟩)
  by_cases h3 : (x.fn == 0) = true
  case neg => (rw [Bool.not_eq_true] at h3; go_enter Try.func24, Try.ntmps24; go_wp2; go_ret; exact ⟨by simp [zeroB, *], below_alloc (Below.refl _ _) _⟩)
  by_cases h4 : (x.fx == 0) = true
  case neg => (rw [Bool.not_eq_true] at h4; go_enter Try.func24, Try.ntmps24; go_wp2; go_ret; exact ⟨by simp [zeroB, *], below_alloc (Below.refl _ _) _⟩)
  by_cases h5 : (x.pr == 0) = true
  case neg => (rw [Bool.not_eq_true] at h5; go_enter Try.func24, Try.ntmps24; go_wp2; go_ret; exact ⟨by simp [zeroB, *], below_alloc (Below.refl _ _) _⟩)
  by_cases h6 : (x.se == 0) = true
  case neg => (rw [Bool.not_eq_true] at h6; go_enter Try.func24, Try.ntmps24; go_wp2; go_ret; exact ⟨by simp [zeroB, *], below_alloc (Below.refl _ _) _⟩)
  by_cases h7 : (x.em == 0) = true
  case neg => (rw [Bool.not_eq_true] at h7; go_enter Try.func24, Try.ntmps24; go_wp2; go_ret; exact ⟨by simp [zeroB, *], below_alloc (Below.refl _ _) _⟩)
  by_cases h8 : (!x.ep) = true
  case neg => (rw [Bool.not_eq_true] at h8; go_enter Try.func24, Try.ntmps24; go_wp2; go_ret; exact ⟨by simp [zeroB, *], below_alloc (Below.refl _ _) _⟩)
  by_cases h9 : (x.pad.toList.isEmpty) = true
  case neg => (rw [Bool.not_eq_true] at h9; go_enter Try.func24, Try.ntmps24; go_wp2; go_ret; exact ⟨by simp [zeroB, *], below_alloc (Below.refl _ _) _⟩)
  by_cases h10 : (x.pa == 0) = true
  case neg => (rw [Bool.not_eq_true] at h10; go_enter Try.func24, Try.ntmps24; go_wp2; go_ret; exact ⟨by simp [zeroB, *], below_alloc (Below.refl _ _) _⟩)
  go_enter Try.func24, Try.ntmps24
  go_wp2
  go_ret
  exact ⟨by simp [zeroB, *], below_alloc (Below.refl _ _) _⟩
end Go.Proofs.Ytacnjemndfmbhaa.Q
end
section
namespace Go.Proofs.Ytacnjemndfmbhaa.Q
open Go.RowKit Go.Proofs.YtacnjemndfmbhaaW.PrintWords Go.Proofs.YtacnjemndfmbhaaW.PrintLast Go.Proofs.YtacnjemndfmbhaaW.PrintMore
attribute [local go_sem] max2_int min2_int max_two min_two max_three min_three max_four min_four   -- for this text's walks alone
set_option linter.unusedVariables false
set_option linter.unusedSimpArgs false

theorem eqA53 (d : Nat) (w : World) (x0 y0 : Int) (x1 y1 : Int) (x2 y2 : ByteArray) :
    (Op.equalIn (d + 2) 53 (.agg #[.int .i64 x0, .int .i64 x1, .string x2]) (.agg #[.int .i64 y0, .int .i64 y1, .string y2])).run Try.prog w = .ok (x0 == y0 && (x1 == y1 && (x2.toList == y2.toList))) w := by
  refine eqA_of Try.underlying53 (by kernel_rfl) ?_
  refine eqf_cons (by rfl) (by go_simp; rfl) (by go_simp; rfl) (by go_simp) ?_
  refine eqf_cons (by rfl) (by go_simp; rfl) (by go_simp; rfl) (by go_simp) ?_
  exact eqf_last (by rfl) (by go_simp; rfl) (by go_simp; rfl) (by go_simp)
def cursor_second.f (a0 : Int) : Option (Int × Int × Int) := if a0 < 128 then (some (0, 0, 1)) else (if a0 < 194 then (some (0, 0, 0)) else (if a0 < 224 then (some (128, 191, 2)) else (if a0 = 224 then (some (160, 191, 3)) else (if a0 = 237 then (some (128, 159, 3)) else (if a0 < 240 then (some (128, 191, 3)) else (if a0 = 240 then (some (144, 191, 4)) else (if a0 < 244 then (some (128, 191, 4)) else (if a0 = 244 then (some (128, 143, 4)) else (some (0, 0, 0))))))))))
set_option maxHeartbeats 8000000 in
set_option maxRecDepth 100000 in
theorem cursor_second.calls (a0 : Int) (r1 : Int) (r2 : Int) (r3 : Int) (w : World) (h : cursor_second.f a0 = some (r1, r2, r3)) :
    Calls Try.prog 83 #[.int .u8 a0] w fun e w' => e = .returned (.tuple #[.int .u8 r1, .int .u8 r2, .int .i64 r3]) ∧ Drawn0 w w' := by
  have H : (if a0 < 128 then (some (0, 0, 1)) else (if a0 < 194 then (some (0, 0, 0)) else (if a0 < 224 then (some (128, 191, 2)) else (if a0 = 224 then (some (160, 191, 3)) else (if a0 = 237 then (some (128, 159, 3)) else (if a0 < 240 then (some (128, 191, 3)) else (if a0 = 240 then (some (144, 191, 4)) else (if a0 < 244 then (some (128, 191, 4)) else (if a0 = 244 then (some (128, 143, 4)) else (some (0, 0, 0))))))))))) = some (r1, r2, r3) := h
  clear h
  by_cases c2 : a0 < 128
  · rw [if_pos c2] at H
    have c2b0 : decide (a0 < 128) = true := decide_eq_true c2
    clear c2
    exact aP2
  · rw [if_neg c2] at H
    have c2b0 : decide (a0 < 128) = false := decide_eq_false c2
    clear c2
    by_cases c3 : a0 < 194
    · rw [if_pos c3] at H
      have c3b0 : decide (a0 < 194) = true := decide_eq_true c3
      clear c3
      exact aP2
    · rw [if_neg c3] at H
      have c3b0 : decide (a0 < 194) = false := decide_eq_false c3
      clear c3
      by_cases c4 : a0 < 224
      · rw [if_pos c4] at H
        have c4b0 : decide (a0 < 224) = true := decide_eq_true c4
        clear c4
        exact aP2
      · rw [if_neg c4] at H
        have c4b0 : decide (a0 < 224) = false := decide_eq_false c4
        clear c4
        by_cases c5 : a0 = 224
        · rw [if_pos c5] at H
          have c5b0 : (a0 == 224) = true := beq_iff_eq.mpr c5
          have c5b1 : (a0 != 224) = false := bne_eq_false_iff_eq.mpr c5
          clear c5
          exact aP2
        · rw [if_neg c5] at H
          have c5b0 : (a0 == 224) = false := beq_eq_false_iff_ne.mpr c5
          have c5b1 : (a0 != 224) = true := bne_iff_ne.mpr c5
          by_cases c6 : a0 = 237
          · rw [if_pos c6] at H
            have c6b0 : (a0 == 237) = true := beq_iff_eq.mpr c6
            have c6b1 : (a0 != 237) = false := bne_eq_false_iff_eq.mpr c6
            clear c6
            exact aP2
          · rw [if_neg c6] at H
            have c6b0 : (a0 == 237) = false := beq_eq_false_iff_ne.mpr c6
            have c6b1 : (a0 != 237) = true := bne_iff_ne.mpr c6
            by_cases c7 : a0 < 240
            · rw [if_pos c7] at H
              have c7b0 : decide (a0 < 240) = true := decide_eq_true c7
              clear c7
              exact aP2
            · rw [if_neg c7] at H
              have c7b0 : decide (a0 < 240) = false := decide_eq_false c7
              clear c7
              by_cases c8 : a0 = 240
              · rw [if_pos c8] at H
                have c8b0 : (a0 == 240) = true := beq_iff_eq.mpr c8
                have c8b1 : (a0 != 240) = false := bne_eq_false_iff_eq.mpr c8
                clear c8
                exact aP2
              · rw [if_neg c8] at H
                have c8b0 : (a0 == 240) = false := beq_eq_false_iff_ne.mpr c8
                have c8b1 : (a0 != 240) = true := bne_iff_ne.mpr c8
                by_cases c9 : a0 < 244
                · rw [if_pos c9] at H
                  have c9b0 : decide (a0 < 244) = true := decide_eq_true c9
                  clear c9
                  exact aP2
                · rw [if_neg c9] at H
                  have c9b0 : decide (a0 < 244) = false := decide_eq_false c9
                  clear c9
                  by_cases c10 : a0 = 244
                  · rw [if_pos c10] at H
                    have c10b0 : (a0 == 244) = true := beq_iff_eq.mpr c10
                    have c10b1 : (a0 != 244) = false := bne_eq_false_iff_eq.mpr c10
                    clear c10
                    exact aP2
                  · rw [if_neg c10] at H
                    have c10b0 : (a0 == 244) = false := beq_eq_false_iff_ne.mpr c10
                    have c10b1 : (a0 != 244) = true := bne_iff_ne.mpr c10
                    exact aP2
mutual
def cursor_Rune.j0 : Nat → ByteArray → Int → Bool → Option (Int)
  | 0, _, _, _ => none
  | k + 1, x0, x1, x17 => if x17 = true then (some 0) else (if 0 ≤ x1 then (if x1 < (x0.size : Int) then ((cursor_second.f (bt x0 x1)).bind fun bt101 => (if bt101.2.2 > (wrap64 ((x0.size : Int) - x1)) then (some 0) else (cursor_Rune.l0 k x0 x1 bt101.1 bt101.2.1 bt101.2.2 1))) else (none)) else (none))
def cursor_Rune.l0 : Nat → ByteArray → Int → Int → Int → Int → Int → Option (Int)
  | 0, _, _, _, _, _, _ => none
  | k + 1, x0, x1, x5, x6, x7, x8 => if x8 < x7 then (if 0 ≤ (wrap64 (x1 + x8)) then (if (wrap64 (x1 + x8)) < (x0.size : Int) then (if (bt x0 (wrap64 (x1 + x8))) < x5 then (some 0) else (if (bt x0 (wrap64 (x1 + x8))) > x6 then (some 0) else (cursor_Rune.l0 k x0 x1 128 191 x7 (wrap64 (x8 + 1))))) else (none)) else (none)) else (some x7)
end
def cursor_Rune.f (k : Nat) (a0 : ByteArray) (a1 : Int) : Option (Int) := if a1 < 0 then (cursor_Rune.j0 k a0 a1 true) else (cursor_Rune.j0 k a0 a1 (decide (a1 ≥ (a0.size : Int))))
set_option maxHeartbeats 8000000 in
set_option maxRecDepth 100000 in
theorem cursor_Rune.calls (k : Nat) (a0 : ByteArray) (a1 : Int) (r : Int) (w : World) (h : cursor_Rune.f k a0 a1 = some r) :
    Calls Try.prog 62 #[.string a0, .int .i64 a1] w fun e w' => e = .returned (.int .i64 r) ∧ Drawn0 w w' := by
  have H : (if a1 < 0 then (cursor_Rune.j0 k a0 a1 true) else (cursor_Rune.j0 k a0 a1 (decide (a1 ≥ (a0.size : Int))))) = some r := h
  clear h
  have HC3 := Aside0.mk H
  clear H
  go_enter Try.func62, Try.ntmps62
  go_upto_region 1 with (fail)
  go_cut [17] (fun v17 wc => ∃ (kq : Nat) (x17_2 : Bool), v17 = .bool x17_2 ∧ Aside0 (cursor_Rune.j0 kq a0 a1 x17_2 = some r) ∧ Aside0 (kq ≤ k) ∧ Drawn0 w wc)
  case first =>
    have H := HC3.out
    clear HC3
    by_cases c4 : a1 < 0
    · rw [if_pos c4] at H
      have c4b0 : decide (a1 < 0) = true := decide_eq_true c4
      clear c4
      (first | rw [c4b0] | (simp only [i64_w, i32_w]; rw [c4b0]) | skip)
      have H' := Aside0.mk H
      clear H
      go_wp2
      go_meet
      case rel => exact ⟨_, (true), (aP24), H', ⟨by first | omega | exact Nat.le_refl _⟩, aP25⟩
    · rw [if_neg c4] at H
      have c4b0 : decide (a1 < 0) = false := decide_eq_false c4
      clear c4
      (first | rw [c4b0] | (simp only [i64_w, i32_w]; rw [c4b0]) | skip)
      have H' := Aside0.mk H
      clear H
      go_wp2
      go_meet
      case rel => exact ⟨_, (decide (a1 ≥ (a0.size : Int))), (aP24), H', ⟨by first | omega | exact Nat.le_refl _⟩, aP25⟩
  case rest =>
    clear HC3
    try clear p2
    try clear c4
    try clear c4b0
    obtain ⟨kq, x17_2, rfl, HA, HJ2, ⟨mc2, rfl⟩⟩ := hcut
    cases kq with
    | zero => exact absurd HA.out (by simp [cursor_Rune.j0])
    | succ kj2 =>
      have H := HA.out
      clear HA
      simp only [cursor_Rune.j0] at H
      by_cases c5 : x17_2 = true
      · subst c5
        have H1 : (some 0) = some r := by rw [if_pos rfl] at H; exact H
        clear H
        have H := H1
        clear H1
        exact aP0
      · replace c5 := Bool.eq_false_iff.mpr c5
        subst c5
        have H1 : (if 0 ≤ a1 then (if a1 < (a0.size : Int) then ((cursor_second.f (bt a0 a1)).bind fun bt101 => (if bt101.2.2 > (wrap64 ((a0.size : Int) - a1)) then (some 0) else (cursor_Rune.l0 kj2 a0 a1 bt101.1 bt101.2.1 bt101.2.2 1))) else (none)) else (none)) = some r := aP26
        clear H
        have H := H1
        clear H1
        by_cases c6 : 0 ≤ a1
        · rw [if_pos c6] at H
          have c6b0 : decide (0 ≤ a1) = true := decide_eq_true c6
          clear c6
          by_cases c7 : a1 < (a0.size : Int)
          · rw [if_pos c7] at H
            have c7b0 : decide (a1 < (a0.size : Int)) = true := decide_eq_true c7
            clear c7
            replace H := Option.bind_eq_some_iff.mp H
            obtain ⟨⟨t101, t102, t103⟩, A90, H⟩ := H
            replace H : (if t103 > (wrap64 ((a0.size : Int) - a1)) then (some 0) else (cursor_Rune.l0 kj2 a0 a1 t101 t102 t103 1)) = some r := H
            have A9 := Aside0.mk A90
            clear A90
            by_cases c10 : t103 > (wrap64 ((a0.size : Int) - a1))
            · rw [if_pos c10] at H
              have c10b0 : decide ((wrap64 ((a0.size : Int) - a1)) < t103) = true := decide_eq_true c10
              clear c10
              obtain rfl := Option.some.inj H
              have p8 : 0 ≤ (a1 : Int) := of_decide_eq_true (aP27)
              have q8 : a1 < (a0.size : Int) := of_decide_eq_true (aP27)
              have hx8 := bt_at a0 a1
              replace p8 := eq_true p8
              replace q8 := eq_true q8
              go_wp2_with (first | ((with_reducible refine gate_callee (f := 83) rfl ?_); refine goesL_ (some 22) rfl rfl Try.func83 (by kernel_rfl) rfl #[.int .u8 (bt a0 a1)] rfl (aP28) ?_; (with_reducible refine (cursor_second.calls (bt a0 a1) t101 t102 t103 _ A9.out).mono ?_); rintro e w' ⟨rfl, ⟨nd, rfl⟩⟩; refine ⟨_, rfl, ?_⟩))
              go_ret
              exact ⟨aP24, aP25⟩
            · rw [if_neg c10] at H
              have c10b0 : decide ((wrap64 ((a0.size : Int) - a1)) < t103) = false := decide_eq_false c10
              clear c10
              have H' := Aside0.mk H
              clear H
              have p8 : 0 ≤ (a1 : Int) := of_decide_eq_true (aP27)
              have q8 : a1 < (a0.size : Int) := of_decide_eq_true (aP27)
              have hx8 := bt_at a0 a1
              replace p8 := eq_true p8
              replace q8 := eq_true q8
              go_wp2_with (first | ((with_reducible refine gate_callee (f := 83) rfl ?_); refine goesL_ (some 22) rfl rfl Try.func83 (by kernel_rfl) rfl #[.int .u8 (bt a0 a1)] rfl (aP28) ?_; (with_reducible refine (cursor_second.calls (bt a0 a1) t101 t102 t103 _ A9.out).mono ?_); rintro e w' ⟨rfl, ⟨nd, rfl⟩⟩; refine ⟨_, rfl, ?_⟩))
              go_loopg [5, 6, 8] kj2 (fun kq v5 v6 v8 w' => ∃ (x5_2 : Int) (x6_2 : Int) (x8_2 : Int), v5 = .int .u8 x5_2 ∧ v6 = .int .u8 x6_2 ∧ v8 = .int .i64 x8_2 ∧ Aside0 (cursor_Rune.l0 kq a0 a1 x5_2 x6_2 t103 x8_2 = some r) ∧ Aside0 (kq ≤ kj2) ∧ Drawn0 w w')
              case atStart => exact ⟨(t101), (t102), (1), (aP24), (aP24), (aP24), H', ⟨Nat.le_refl _⟩, aP25⟩
              case round =>
                clear H'
                try clear c1
                try clear c2
                try clear p2
                try clear c4
                try clear c4b0
                try clear c5
                try clear c6
                try clear c6b0
                try clear p6
                try clear c7
                try clear c7b0
                try clear c8
                try clear p8
                try clear q8
                try clear hx8
                try clear c10
                try clear c10b0
                try clear p2
                try clear p8
                try clear q8
                obtain ⟨x5_2, x6_2, x8_2, rfl, rfl, rfl, HA, HK2, ⟨m2, rfl⟩⟩ := hrel
                cases gk with
                | zero => exact absurd HA.out (by simp [cursor_Rune.l0])
                | succ k2 =>
                  have H := HA.out
                  clear HA
                  simp only [cursor_Rune.l0] at H
                  by_cases c11 : x8_2 < t103
                  · rw [if_pos c11] at H
                    have c11b0 : decide (x8_2 < t103) = true := decide_eq_true c11
                    clear c11
                    obtain ⟨ji12, hji12⟩ : ∃ j_ : Int, (wrap64 (a1 + x8_2)) = j_ := ⟨_, rfl⟩
                    replace H : (if 0 ≤ (ji12) then (if (ji12) < (a0.size : Int) then (if (bt a0 (ji12)) < x5_2 then (some 0) else (if (bt a0 (ji12)) > x6_2 then (some 0) else (cursor_Rune.l0 k2 a0 a1 128 191 t103 (wrap64 (x8_2 + 1))))) else (none)) else (none)) = some r := by first | (rw [hji12] at H; exact H) | (simp only [hji12] at H ⊢; exact H)
                    have hji12w : (IntKind.i64.wrap (a1 + x8_2)) = ji12 := (i64_w _).trans hji12
                    by_cases c13 : 0 ≤ (ji12)
                    · rw [if_pos c13] at H
                      have c13b0 : decide (0 ≤ (ji12)) = true := decide_eq_true c13
                      clear c13
                      by_cases c14 : (ji12) < (a0.size : Int)
                      · rw [if_pos c14] at H
                        have c14b0 : decide ((ji12) < (a0.size : Int)) = true := decide_eq_true c14
                        clear c14
                        by_cases c16 : (bt a0 (ji12)) < x5_2
                        · rw [if_pos c16] at H
                          have c16b0 : decide ((bt a0 (ji12)) < x5_2) = true := decide_eq_true c16
                          clear c16
                          exact aP1
                        · rw [if_neg c16] at H
                          have c16b0 : decide ((bt a0 (ji12)) < x5_2) = false := decide_eq_false c16
                          clear c16
                          by_cases c17 : (bt a0 (ji12)) > x6_2
                          · rw [if_pos c17] at H
                            have c17b0 : decide (x6_2 < (bt a0 (ji12))) = true := decide_eq_true c17
                            clear c17
                            exact aP1
                          · rw [if_neg c17] at H
                            have c17b0 : decide (x6_2 < (bt a0 (ji12))) = false := decide_eq_false c17
                            clear c17
                            have H' := Aside0.mk H
                            clear H
                            have p15 : 0 ≤ ((ji12) : Int) := of_decide_eq_true (aP27)
                            have q15 : (ji12) < (a0.size : Int) := of_decide_eq_true (aP27)
                            have hx15 := bt_at a0 (ji12)
                            replace p15 := eq_true p15
                            replace q15 := eq_true q15
                            go_wp2
                            go_roundg k2
                            case measure => have := HJ2.out; have := HK2.out; omega
                            case rel => exact ⟨(128), (191), (wrap64 (x8_2 + 1)), (aP24), (aP24), (aP24), H', ⟨by have := HJ2.out; have := HK2.out; omega⟩, aP25⟩
                      · rw [if_neg c14] at H
                        exact absurd H (by simp)
                    · rw [if_neg c13] at H
                      exact absurd H (by simp)
                  · rw [if_neg c11] at H
                    have c11b0 : decide (x8_2 < t103) = false := decide_eq_false c11
                    clear c11
                    exact aP0
          · rw [if_neg c7] at H
            exact absurd H (by simp)
        · rw [if_neg c6] at H
          exact absurd H (by simp)

def cursor_Runes.l0 : Nat → ByteArray → Int → Int → Option (Int)
  | 0, _, _, _ => none
  | k + 1, x0, x3, x4 => if x4 < (x0.size : Int) then ((cursor_Rune.f k x0 x4).bind fun t104 => (if t104 = 0 then (some (-1)) else (cursor_Runes.l0 k x0 (wrap64 (x3 + 1)) (wrap64 (x4 + t104))))) else (some x3)
def cursor_Runes.f (k : Nat) (a0 : ByteArray) : Option (Int) := cursor_Runes.l0 k a0 0 0
set_option maxHeartbeats 8000000 in
set_option maxRecDepth 100000 in
theorem cursor_Runes.calls (k : Nat) (a0 : ByteArray) (r : Int) (w : World) (h : cursor_Runes.f k a0 = some r) :
    Calls Try.prog 35 #[.string a0] w fun e w' => e = .returned (.int .i64 r) ∧ Drawn0 w w' := by
  have H : (cursor_Runes.l0 k a0 0 0) = some r := h
  clear h
  have H' := Aside0.mk H
  clear H
  go_enter Try.func35, Try.ntmps35
  go_wp2
  go_loopg [3, 4] k (fun kq v3 v4 w' => ∃ (x3_1 : Int) (x4_1 : Int), v3 = .int .i64 x3_1 ∧ v4 = .int .i64 x4_1 ∧ Aside0 (cursor_Runes.l0 kq a0 x3_1 x4_1 = some r) ∧ Aside0 (kq ≤ k) ∧ Drawn0 w w')
  case atStart => exact ⟨(0), (0), (aP24), (aP24), H', ⟨Nat.le_refl _⟩, aP25⟩
  case round =>
    clear H'
    obtain ⟨x3_1, x4_1, rfl, rfl, HA, HK1, ⟨m1, rfl⟩⟩ := hrel
    cases gk with
    | zero => exact absurd HA.out (by simp [cursor_Runes.l0])
    | succ k1 =>
      have H := HA.out
      clear HA
      simp only [cursor_Runes.l0] at H
      by_cases c2 : x4_1 < (a0.size : Int)
      · rw [if_pos c2] at H
        have c2b0 : decide (x4_1 < (a0.size : Int)) = true := decide_eq_true c2
        clear c2
        replace H := Option.bind_eq_some_iff.mp H
        obtain ⟨t104, A30, H⟩ := H
        replace H : (if t104 = 0 then (some (-1)) else (cursor_Runes.l0 k1 a0 (wrap64 (x3_1 + 1)) (wrap64 (x4_1 + t104)))) = some r := H
        have A3 := Aside0.mk A30
        clear A30
        by_cases c4 : t104 = 0
        · rw [if_pos c4] at H
          have c4b0 : (t104 == 0) = true := beq_iff_eq.mpr c4
          have c4b1 : (t104 != 0) = false := bne_eq_false_iff_eq.mpr c4
          clear c4
          obtain rfl := Option.some.inj H
          go_wp2_with (first | ((with_reducible refine gate_callee (f := 62) rfl ?_); refine goesL_ (some 14) rfl rfl Try.func62 (by kernel_rfl) rfl #[.string a0, .int .i64 x4_1] rfl (aP28) ?_; (with_reducible refine (cursor_Rune.calls k1 a0 x4_1 t104 _ A3.out).mono ?_); rintro e w' ⟨rfl, ⟨nd, rfl⟩⟩; refine ⟨_, rfl, ?_⟩))
          go_ret
          exact ⟨aP24, aP25⟩
        · rw [if_neg c4] at H
          have c4b0 : (t104 == 0) = false := beq_eq_false_iff_ne.mpr c4
          have c4b1 : (t104 != 0) = true := bne_iff_ne.mpr c4
          have H' := Aside0.mk H
          clear H
          go_wp2_with (first | ((with_reducible refine gate_callee (f := 62) rfl ?_); refine goesL_ (some 14) rfl rfl Try.func62 (by kernel_rfl) rfl #[.string a0, .int .i64 x4_1] rfl (aP28) ?_; (with_reducible refine (cursor_Rune.calls k1 a0 x4_1 t104 _ A3.out).mono ?_); rintro e w' ⟨rfl, ⟨nd, rfl⟩⟩; refine ⟨_, rfl, ?_⟩))
          go_roundg k1
          case measure => have := HK1.out; omega
          case rel => exact ⟨(wrap64 (x3_1 + 1)), (wrap64 (x4_1 + t104)), (aP24), (aP24), H', ⟨by have := HK1.out; omega⟩, aP25⟩
      · rw [if_neg c2] at H
        have c2b0 : decide (x4_1 < (a0.size : Int)) = false := decide_eq_false c2
        clear c2
        exact aP0
def quipuref11_within.f (a0 : ByteArray) (a1 : Int) (a2 : Int) (a3 : Int) : Option (Bool) := if a1 < (a0.size : Int) then (if 0 ≤ a1 then (if (wrap64 (bt a0 a1)) ≥ a2 then (some (decide ((wrap64 (bt a0 a1)) ≤ a3))) else (some false)) else (none)) else (some false)
mutual
def quipuref11_Rune.j0 : Nat → ByteArray → Int → Bool → Option (Int)
  | 0, _, _, _ => none
  | k + 1, x0, x1, x16 => if x16 = true then (some 0) else (if 0 ≤ x1 then (if x1 < (x0.size : Int) then ((quipuref11_within.f x0 (wrap64 (x1 + 1)) 128 191).bind fun t105 => ((quipuref11_within.f x0 (wrap64 (x1 + 2)) 128 191).bind fun t106 => ((quipuref11_within.f x0 (wrap64 (x1 + 3)) 128 191).bind fun t107 => (if (wrap64 (bt x0 x1)) < 128 then (some 1) else (if (wrap64 (bt x0 x1)) ≥ 194 then (if (wrap64 (bt x0 x1)) ≤ 223 then (quipuref11_Rune.j1 k x0 x1 (wrap64 (bt x0 x1)) t105 t106 t107 t105) else (quipuref11_Rune.j1 k x0 x1 (wrap64 (bt x0 x1)) t105 t106 t107 false)) else (quipuref11_Rune.j1 k x0 x1 (wrap64 (bt x0 x1)) t105 t106 t107 false)))))) else (none)) else (none))
def quipuref11_Rune.j1 : Nat → ByteArray → Int → Int → Bool → Bool → Bool → Bool → Option (Int)
  | 0, _, _, _, _, _, _, _ => none
  | k + 1, x0, x1, x5, x6, x7, x8, x36 => if x36 = true then (some 2) else (if x5 = 224 then ((quipuref11_within.f x0 (wrap64 (x1 + 1)) 160 191).bind fun t108 => (if t108 = true then (quipuref11_Rune.j2 k x0 x1 x5 x6 x7 x8 x7) else (quipuref11_Rune.j2 k x0 x1 x5 x6 x7 x8 false))) else (quipuref11_Rune.j2 k x0 x1 x5 x6 x7 x8 false))
def quipuref11_Rune.j2 : Nat → ByteArray → Int → Int → Bool → Bool → Bool → Bool → Option (Int)
  | 0, _, _, _, _, _, _, _ => none
  | k + 1, x0, x1, x5, x6, x7, x8, x46 => if x46 = true then (some 3) else (if x5 ≥ 225 then (if x5 ≤ 236 then (if x6 = true then (quipuref11_Rune.j3 k x0 x1 x5 x6 x7 x8 x7) else (quipuref11_Rune.j3 k x0 x1 x5 x6 x7 x8 false)) else (quipuref11_Rune.j3 k x0 x1 x5 x6 x7 x8 false)) else (quipuref11_Rune.j3 k x0 x1 x5 x6 x7 x8 false))
def quipuref11_Rune.j3 : Nat → ByteArray → Int → Int → Bool → Bool → Bool → Bool → Option (Int)
  | 0, _, _, _, _, _, _, _ => none
  | k + 1, x0, x1, x5, x6, x7, x8, x58 => if x58 = true then (quipuref11_Rune.j4 k x0 x1 x5 x6 x7 x8 x58) else (if x5 = 238 then (if x6 = true then (quipuref11_Rune.j4 k x0 x1 x5 x6 x7 x8 x7) else (quipuref11_Rune.j4 k x0 x1 x5 x6 x7 x8 false)) else (if x5 = 239 then (if x6 = true then (quipuref11_Rune.j4 k x0 x1 x5 x6 x7 x8 x7) else (quipuref11_Rune.j4 k x0 x1 x5 x6 x7 x8 false)) else (quipuref11_Rune.j4 k x0 x1 x5 x6 x7 x8 false)))
def quipuref11_Rune.j4 : Nat → ByteArray → Int → Int → Bool → Bool → Bool → Bool → Option (Int)
  | 0, _, _, _, _, _, _, _ => none
  | k + 1, x0, x1, x5, x6, x7, x8, x58 => if x58 = true then (some 3) else (if x5 = 237 then ((quipuref11_within.f x0 (wrap64 (x1 + 1)) 128 159).bind fun t109 => (if t109 = true then (quipuref11_Rune.j5 k x0 x1 x5 x6 x7 x8 x7) else (quipuref11_Rune.j5 k x0 x1 x5 x6 x7 x8 false))) else (quipuref11_Rune.j5 k x0 x1 x5 x6 x7 x8 false))
def quipuref11_Rune.j5 : Nat → ByteArray → Int → Int → Bool → Bool → Bool → Bool → Option (Int)
  | 0, _, _, _, _, _, _, _ => none
  | k + 1, x0, x1, x5, x6, x7, x8, x83 => if x83 = true then (some 3) else (if x5 = 240 then ((quipuref11_within.f x0 (wrap64 (x1 + 1)) 144 191).bind fun t110 => (if t110 = true then (if x7 = true then (quipuref11_Rune.j6 k x0 x1 x5 x6 x7 x8 x8) else (quipuref11_Rune.j6 k x0 x1 x5 x6 x7 x8 false)) else (quipuref11_Rune.j6 k x0 x1 x5 x6 x7 x8 false))) else (quipuref11_Rune.j6 k x0 x1 x5 x6 x7 x8 false))
def quipuref11_Rune.j6 : Nat → ByteArray → Int → Int → Bool → Bool → Bool → Bool → Option (Int)
  | 0, _, _, _, _, _, _, _ => none
  | k + 1, x0, x1, x5, x6, x7, x8, x95 => if x95 = true then (some 4) else (if x5 ≥ 241 then (if x5 ≤ 243 then (if x6 = true then (if x7 = true then (quipuref11_Rune.j7 k x0 x1 x5 x7 x8 x8) else (quipuref11_Rune.j7 k x0 x1 x5 x7 x8 false)) else (quipuref11_Rune.j7 k x0 x1 x5 x7 x8 false)) else (quipuref11_Rune.j7 k x0 x1 x5 x7 x8 false)) else (quipuref11_Rune.j7 k x0 x1 x5 x7 x8 false))
def quipuref11_Rune.j7 : Nat → ByteArray → Int → Int → Bool → Bool → Bool → Option (Int)
  | 0, _, _, _, _, _, _ => none
  | k + 1, x0, x1, x5, x7, x8, x110 => if x110 = true then (some 4) else (if x5 = 244 then ((quipuref11_within.f x0 (wrap64 (x1 + 1)) 128 143).bind fun t111 => (if t111 = true then (if x7 = true then (if x8 = true then (some 4) else (some 0)) else (some 0)) else (some 0))) else (some 0))
end
def quipuref11_Rune.f (k : Nat) (a0 : ByteArray) (a1 : Int) : Option (Int) := if a1 < 0 then (quipuref11_Rune.j0 k a0 a1 true) else (quipuref11_Rune.j0 k a0 a1 (decide (a1 ≥ (a0.size : Int))))
end Go.Proofs.Ytacnjemndfmbhaa.Q
end
