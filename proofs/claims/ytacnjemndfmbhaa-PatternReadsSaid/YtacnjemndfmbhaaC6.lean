import Derived.Test.YtacnjemndfmbhaaProg
import Derived.Below
import Derived.Deep.Draws
import Derived.Deep.AppendLies
import Derived.Maps.AppendAt
import Derived.OwnWalk
import Derived.Laws.BytesArg
import Derived.Laws.MakeOwn
import Derived.Laws.OwnMore
import Derived.Deep.OwnRows
import Derived.Tactics
import Derived.Lib.ConvBytes
import Derived.Laws.Slices
import Derived.WalkKit
import Derived.KernelRfl
import Derived.RowKit3
import Derived.Deep.LoopGhost
import Derived.Deep.QuietTactic
import Derived.BigQuiet
import Derived.WideLaws
import Derived.Deep.DeepCutAuto
import Derived.Deep.CutBlock
import Derived.Deep.RegionHeld3
import Derived.Laws.Rows
import Derived.Lib.AppendStr
import Derived.ArgAppend
import Derived.Laws.IdiomCopy
import Derived.OrdersHeld
import Derived.Laws.BitsLemmas
import Derived.RowKit
import Derived.Lib.Hide
import Derived.Deep.RegionLaw
import Derived.Laws.Cover3
import Derived.Lib.Strings
import Derived.Lib.Slices
import Derived.Lib.Small
import Derived.Lib.Walk
import Derived.Test.YtacnjemndfmbhaaC0
import Derived.Test.YtacnjemndfmbhaaC1
import Derived.Test.YtacnjemndfmbhaaC2
import Derived.Test.YtacnjemndfmbhaaC3
import Derived.Test.YtacnjemndfmbhaaC4
import Derived.Test.YtacnjemndfmbhaaC5
namespace Go.Proofs.Ytacnjemndfmbhaa
open Go.RowKit
theorem aP7 {p : Prop} (h : p := by
    have H1 : (some 0) = some r := by rw [if_neg (show ¬ (false = true) by decide)] at H; exact H
    clear H
    have H := H1
    clear H1
    obtain rfl := Option.some.inj H
    go_wp2_with (first | (go_at_call 87; (with_reducible refine (quipuref11_within.calls a0 (wrap64 (a1 + 1)) 128 143 true _ A51.out).mono ?_); rintro e w' ⟨rfl, ⟨nd, rfl⟩⟩))
    go_ret
    exact ⟨by first | rfl | (simp; done) | (simp [*]; done), by repeat (first | exact Drawn0.refl _ | apply Drawn0.step)⟩) : p := h
theorem aP8 {p : Prop} (h : p := by
    clear H
    have H := H1
    clear H1
    obtain rfl := Option.some.inj H
    go_wp2_with (first | (go_at_call 87; (with_reducible refine (quipuref11_within.calls a0 (wrap64 (a1 + 1)) 128 143 true _ A51.out).mono ?_); rintro e w' ⟨rfl, ⟨nd, rfl⟩⟩))
    go_ret
    exact ⟨by first | rfl | (simp; done) | (simp [*]; done), by repeat (first | exact Drawn0.refl _ | apply Drawn0.step)⟩) : p := h
theorem aP10 {p : Prop} (h : p := by
    have H' := aMk H
    clear H
    go_wp2
    go_meet
    case rel => exact ⟨_, (false), (by first | rfl | (simp; done) | (simp [*]; done)), H', ⟨by have := HJ2.out; have := HJ12.out; have := HJ16.out; have := HJ21.out; have := HJ25.out; have := HJ32.out; have := HJ37.out; first | omega | exact Nat.le_refl _⟩, by repeat (first | exact Drawn0.refl _ | apply Drawn0.step)⟩) : p := h
theorem aP11 {p : Prop} (h : p := by
    clear H
    have H := H1
    clear H1
    have H' := aMk H
    clear H
    go_wp2
    go_meet
    case rel => exact ⟨_, (false), (by first | rfl | (simp; done) | (simp [*]; done)), H', ⟨by have := HJ2.out; have := HJ12.out; have := HJ16.out; have := HJ21.out; have := HJ25.out; have := HJ32.out; have := HJ37.out; first | omega | exact Nat.le_refl _⟩, by repeat (first | exact Drawn0.refl _ | apply Drawn0.step)⟩) : p := h
theorem aP9 {p : Prop} (h : p := by
    have H1 : (some 4) = some r := by rw [if_pos rfl] at H; exact H
    clear H
    have H := H1
    clear H1
    obtain rfl := Option.some.inj H
    go_wp2
    go_ret
    exact ⟨by first | rfl | (simp; done) | (simp [*]; done), by repeat (first | exact Drawn0.refl _ | apply Drawn0.step)⟩) : p := h
theorem aP12 {p : Prop} (h : p := by
    go_meet
    case rel => exact ⟨_, (false), (by first | rfl | (simp; done) | (simp [*]; done)), H', ⟨by have := HJ2.out; have := HJ12.out; have := HJ16.out; have := HJ21.out; have := HJ25.out; have := HJ32.out; first | omega | exact Nat.le_refl _⟩, by repeat (first | exact Drawn0.refl _ | apply Drawn0.step)⟩) : p := h
theorem aP14 {p : Prop} (h : p := by
    go_meet
    case rel => exact ⟨_, (false), (by first | rfl | (simp; done) | (simp [*]; done)), H', ⟨by have := HJ2.out; have := HJ12.out; have := HJ16.out; have := HJ21.out; have := HJ25.out; first | omega | exact Nat.le_refl _⟩, by repeat (first | exact Drawn0.refl _ | apply Drawn0.step)⟩) : p := h
theorem aP15 {p : Prop} (h : p := by
    have H' := aMk H
    clear H
    go_wp2
    go_meet
    case rel => exact ⟨_, (false), (by first | rfl | (simp; done) | (simp [*]; done)), H', ⟨by have := HJ2.out; have := HJ12.out; have := HJ16.out; have := HJ21.out; first | omega | exact Nat.le_refl _⟩, by repeat (first | exact Drawn0.refl _ | apply Drawn0.step)⟩) : p := h
theorem aP16 {p : Prop} (h : p := by
    have H1 : (quipuref11_Rune.j4 kj21 a0 a1 (wrap64 (bt a0 a1)) false t106 t107 false) = some r := by rw [if_neg (show ¬ (false = true) by decide)] at H; exact H
    clear H
    have H := H1
    clear H1
    have H' := aMk H
    clear H
    go_wp2
    go_meet
    case rel => exact ⟨_, (false), (by first | rfl | (simp; done) | (simp [*]; done)), H', ⟨by have := HJ2.out; have := HJ12.out; have := HJ16.out; have := HJ21.out; first | omega | exact Nat.le_refl _⟩, by repeat (first | exact Drawn0.refl _ | apply Drawn0.step)⟩) : p := h
theorem aP17 {p : Prop} (h : p := by
    have H1 : (quipuref11_Rune.j4 kj21 a0 a1 (wrap64 (bt a0 a1)) true t106 t107 t106) = some r := by rw [if_pos rfl] at H; exact H
    clear H
    have H := H1
    clear H1
    have H' := aMk H
    clear H
    go_wp2
    go_meet
    case rel => exact ⟨_, (t106), (by first | rfl | (simp; done) | (simp [*]; done)), H', ⟨by have := HJ2.out; have := HJ12.out; have := HJ16.out; have := HJ21.out; first | omega | exact Nat.le_refl _⟩, by repeat (first | exact Drawn0.refl _ | apply Drawn0.step)⟩) : p := h
theorem aP18 {p : Prop} (h : p := by
    have H' := aMk H
    clear H
    go_wp2
    go_meet
    case rel => exact ⟨_, (false), (by first | rfl | (simp; done) | (simp [*]; done)), H', ⟨by have := HJ2.out; have := HJ12.out; have := HJ16.out; first | omega | exact Nat.le_refl _⟩, by repeat (first | exact Drawn0.refl _ | apply Drawn0.step)⟩) : p := h
theorem aP13 {p : Prop} (h : p := by
    have H1 : (some 3) = some r := by rw [if_pos rfl] at H; exact H
    clear H
    have H := H1
    clear H1
    obtain rfl := Option.some.inj H
    go_wp2
    go_ret
    exact ⟨by first | rfl | (simp; done) | (simp [*]; done), by repeat (first | exact Drawn0.refl _ | apply Drawn0.step)⟩) : p := h
theorem aP19 {p : Prop} (h : p := by
    go_meet
    case rel => exact ⟨_, (false), (by first | rfl | (simp; done) | (simp [*]; done)), H', ⟨by have := HJ2.out; have := HJ12.out; first | omega | exact Nat.le_refl _⟩, by repeat (first | exact Drawn0.refl _ | apply Drawn0.step)⟩) : p := h
theorem aP20 {p : Prop} (h : p := by
    clear H
    have H := H1
    clear H1
    obtain rfl := Option.some.inj H
    go_wp2
    go_ret
    exact ⟨by first | rfl | (simp; done) | (simp [*]; done), by repeat (first | exact Drawn0.refl _ | apply Drawn0.step)⟩) : p := h
theorem aP79 {p : Prop} (h : p := by rw [if_pos rfl] at H; exact H) : p := h
theorem aP21 {p : Prop} (h : p := by
    have H' := aMk H
    clear H
    go_wp2
    go_meet
    case rel => exact ⟨_, (false), (by first | rfl | (simp; done) | (simp [*]; done)), H', ⟨by have := HJ2.out; first | omega | exact Nat.le_refl _⟩, by repeat (first | exact Drawn0.refl _ | apply Drawn0.step)⟩) : p := h
theorem aP0 {p : Prop} (h : p := by
    go_enter Try.func87, Try.ntmps87
    go_wp2
    go_ret
    exact ⟨by first | rfl | (simp; done) | (simp [*]; done), by repeat (first | exact Drawn0.refl _ | apply Drawn0.step)⟩) : p := h
theorem aP1 {p : Prop} (h : p := by
    rw [if_neg c2] at H
    have c2b0 : decide (x4_1 < (a0.size : Int)) = false := dFa c2
    clear c2
    obtain rfl := Option.some.inj H
    go_wp2
    go_ret
    exact ⟨by first | rfl | (simp; done) | (simp [*]; done), by repeat (first | exact Drawn0.refl _ | apply Drawn0.step)⟩) : p := h
theorem aP2 {p : Prop} (h : p := by
    obtain rfl := Option.some.inj H
    go_wp2
    go_ret
    exact ⟨by first | rfl | (simp; done) | (simp [*]; done), by repeat (first | exact Drawn0.refl _ | apply Drawn0.step)⟩) : p := h
theorem aP3 {p : Prop} (h : p := by
    obtain rfl := Option.some.inj H
    have p15 : 0 ≤ ((ji12) : Int) := of_decide_eq_true (by first | (with_reducible assumption) | assumption)
    have q15 : (ji12) < (a0.size : Int) := of_decide_eq_true (by first | (with_reducible assumption) | assumption)
    have hx15 := bt_at a0 (ji12)
    replace p15 := eq_true p15
    replace q15 := eq_true q15
    go_wp2
    go_ret
    exact ⟨by first | rfl | (simp; done) | (simp only [← hji12] <;> (first | rfl | simp)) | (simp [*]; done), by repeat (first | exact Drawn0.refl _ | apply Drawn0.step)⟩) : p := h
theorem aP78 {p : Prop} (h : p := by repeat (first | exact Drawn0.refl _ | apply Drawn0.step)) : p := h
theorem aP77 {p : Prop} (h : p := by first | rfl | (simp; done) | (simp [*]; done)) : p := h
theorem aP76 {p : Prop} (h : p := by (try simp only [List.map_toArray, List.map_cons, List.map_nil]); first | done | rfl | (simp only [List.length_drop, List.length_take]; rfl)) : p := h
theorem aP75 {p : Prop} (h : p := by first | (with_reducible assumption) | assumption) : p := h
theorem aP74 {p : Prop} (h : p := by rw [if_neg (show ¬ (false = true) by decide)] at H; exact H) : p := h
theorem aP4 {p : Prop} (h : p := by
    subst c5
    have H1 : (some 0) = some r := by rw [if_pos rfl] at H; exact H
    clear H
    have H := H1
    clear H1
    obtain rfl := Option.some.inj H
    go_wp2
    go_ret
    exact ⟨by first | rfl | (simp; done) | (simp [*]; done), by repeat (first | exact Drawn0.refl _ | apply Drawn0.step)⟩) : p := h
theorem aP5 {p : Prop} (h : p := by
    have H := HC3.out
    clear HC3
    by_cases c4 : a1 < 0
    · rw [if_pos c4] at H
      have c4b0 : decide (a1 < 0) = true := dTr c4
      clear c4
      (first | rw [c4b0] | (simp only [i64_w, i32_w]; rw [c4b0]) | skip)
      have H' := aMk H
      clear H
      go_wp2
      go_meet
      case rel => exact ⟨_, (true), (by first | rfl | (simp; done) | (simp [*]; done)), H', ⟨by first | omega | exact Nat.le_refl _⟩, by repeat (first | exact Drawn0.refl _ | apply Drawn0.step)⟩
    · rw [if_neg c4] at H
      have c4b0 : decide (a1 < 0) = false := dFa c4
      clear c4
      (first | rw [c4b0] | (simp only [i64_w, i32_w]; rw [c4b0]) | skip)
      have H' := aMk H
      clear H
      go_wp2
      go_meet
      case rel => exact ⟨_, (decide (a1 ≥ (a0.size : Int))), (by first | rfl | (simp; done) | (simp [*]; done)), H', ⟨by first | omega | exact Nat.le_refl _⟩, by repeat (first | exact Drawn0.refl _ | apply Drawn0.step)⟩) : p := h
theorem aP6 {p : Prop} (h : p := by
    simp only [Option.some.injEq, Prod.mk.injEq] at H
    obtain ⟨rfl, rfl, rfl⟩ := H
    go_enter Try.func83, Try.ntmps83
    go_wp2
    go_ret3
    exact ⟨by first | rfl | (simp; done) | (simp [*]; done), by repeat (first | exact Drawn0.refl _ | apply Drawn0.step)⟩) : p := h
end Go.Proofs.Ytacnjemndfmbhaa
section
namespace Go.Proofs.Ytacnjemndfmbhaa.Q
open Go.RowKit Go.Proofs.YtacnjemndfmbhaaW.PrintWords Go.Proofs.YtacnjemndfmbhaaW.PrintLast Go.Proofs.YtacnjemndfmbhaaW.PrintMore
attribute [local go_sem] max2_int min2_int max_two min_two max_three min_three max_four min_four   -- for this text's walks alone
set_option linter.unusedVariables false
set_option linter.unusedSimpArgs false
def errW : Option Int → Value
 | none => .nilIface
 | some c => .iface 0 (.int .i64 c)
theorem errW_none : errW none = .nilIface := rfl
theorem errW_some (c : Int) : errW (some c) = .iface 0 (.int .i64 c) := rfl
theorem info9 : (Try.prog.info? 9).map (fun i => (i.zero, i.size, i.bytes)) = some (some (.string ⟨#[]⟩), 1, 16) := by kernel_rfl
theorem info53 : (Try.prog.info? 53).map (fun i => (i.zero, i.size, i.bytes)) = some (some (.agg #[(.int .i64 0), (.int .i64 0), (.string ⟨#[]⟩)]), 3, 32) := by kernel_rfl
structure S53 where
 f0 : Int
 f1 : Int
 f2 : ByteArray
def z53 : S53 := ⟨(0 : Int), (0 : Int), (⟨#[]⟩ : ByteArray)⟩
def k53 : Kd S53 := Kd.iso (Kd.pair (Kd.int .i64) (Kd.pair (Kd.int .i64) Kd.string)) (fun x : S53 => (x.f0, x.f1, x.f2))
theorem k53_open {w : World} {x : S53} {cs : List Value} (h : k53.K w x cs) : cs = [.int .i64 x.f0, .int .i64 x.f1, .string x.f2] := by
 obtain ⟨_, _, rfl, rfl, ⟨_, _, rfl, rfl, rfl⟩⟩ := h
 exact rfl
theorem k53_openM {w : World} {base : Nat} {ok : Nat → Prop} {x : S53} {cs : List Value} (h : k53.M w base ok x cs) : cs = [.int .i64 x.f0, .int .i64 x.f1, .string x.f2] := by
 obtain ⟨_, _, rfl, rfl, ⟨_, _, rfl, rfl, rfl⟩⟩ := h
 exact rfl
theorem k53_mkM (w : World) (base : Nat) (ok : Nat → Prop) (x : S53)  : k53.M w base ok x [.int .i64 x.f0, .int .i64 x.f1, .string x.f2] := ⟨[.int .i64 x.f0], [.int .i64 x.f1, .string x.f2], rfl, rfl, ⟨[.int .i64 x.f1], [.string x.f2], rfl, rfl, rfl⟩⟩
def rd_T53 (xs : List S53) (i : Int) : S53 := xs.getD i.toNat z53
theorem at_T53 {w : World} {A : Option Addr} {n : Nat} {xs : List S53} (h : Kd.C k53 w A n xs) (i : Int) (h0 : 0 ≤ i) (h1 : i < n) : ∃ ad , A = some ad ∧ w.cell? (ad.add (i.toNat * 3)) = some (.int .i64 (rd_T53 xs i).f0) ∧ w.cell? ⟨(ad.add (i.toNat * 3)).block, (ad.add (i.toNat * 3)).off + 1, none⟩ = some (.int .i64 (rd_T53 xs i).f1) ∧ w.cell? ⟨(ad.add (i.toNat * 3)).block, (ad.add (i.toNat * 3)).off + 2, none⟩ = some (.string (rd_T53 xs i).f2) := by
 obtain ⟨ad, c, e, _, hK, hc0⟩ := Kd.C_get h z53 i h0 h1
 have hc : ∀ j u, c[j]? = some u → w.cell? (ad.add (i.toNat * 3 + j)) = some u := hc0
 obtain rfl := k53_open hK
 exact ⟨ad, e, hc 0 _ rfl, by rw [← add_field _ _ 1 (by omega)]; exact hc 1 _ rfl, by rw [← add_field _ _ 2 (by omega)]; exact hc 2 _ rfl⟩
end Go.Proofs.Ytacnjemndfmbhaa.Q
end
section
namespace Go.Proofs.Ytacnjemndfmbhaa.Q
open Go.RowKit Go.Proofs.YtacnjemndfmbhaaW.PrintWords Go.Proofs.YtacnjemndfmbhaaW.PrintLast Go.Proofs.YtacnjemndfmbhaaW.PrintMore
attribute [local go_sem] max2_int min2_int max_two min_two max_three min_three max_four min_four
set_option linter.unusedVariables false
set_option linter.unusedSimpArgs false
instance (a b : S53) : Decidable (a = b) :=
 if h : a.f0 = b.f0 ∧ a.f1 = b.f1 ∧ a.f2 = b.f2 then isTrue (by cases a; cases b; obtain ⟨h0, h1, h2⟩ := h; simp_all) else isFalse (by rintro rfl; exact h ⟨rfl, rfl, rfl⟩)
structure Sb where
 p : List S53
 s : List S53
 im : Int
 fn : Int
 fx : Int
 pr : Int
 se : Int
 em : Int
 ep : Bool
 pad : ByteArray
 pa : Int
 wd : Int
structure Sl where
 A : Option Addr
 c : Nat
 B : Option Addr
 d : Nat
@[reducible] def subV (L : Sl) (x : Sb) : Value := .agg #[.slice L.A x.p.length L.c, .slice L.B x.s.length L.d, .int .i64 x.im, .int .i64 x.fn, .int .i64 x.fx, .int .i64 x.pr, .int .i64 x.se, .int .i64 x.em, .bool x.ep, .string x.pad, .int .i64 x.pa, .int .i64 x.wd]
@[reducible] def subC (L : Sl) (x : Sb) : Array Value := #[.slice L.A x.p.length L.c, .slice L.B x.s.length L.d, .int .i64 x.im, .int .i64 x.fn, .int .i64 x.fx, .int .i64 x.pr, .int .i64 x.se, .int .i64 x.em, .bool x.ep, .string x.pad, .int .i64 x.pa, .int .i64 x.wd]
structure SubR (w : World) (L : Sl) (x : Sb) : Prop where
 p : Kd.C k53 w L.A x.p.length x.p
 pc : x.p.length ≤ L.c
 s : Kd.C k53 w L.B x.s.length x.s
 sc : x.s.length ≤ L.d
 pl : x.p.length < 4398046511104
 sl : x.s.length < 4398046511104
theorem SubR.below {w w1 : World} {L : Sl} {x : Sb} (h : SubR w L x) (hb : Below w.heap.size w w1) : SubR w1 L x := ⟨Kd.C_below h.p hb, h.pc, Kd.C_below h.s hb, h.sc, h.pl, h.sl⟩
def inB (a b c : Int) : Bool := decide (b ≤ a) && decide (a ≤ c)
theorem ret_int {k : IntKind} {a b : Int} (h : a = b) : Ending.returned (.int k a) = .returned (.int k b) := by rw [h]
theorem ret_bool {a b : Bool} (h : a = b) : Ending.returned (.bool a) = .returned (.bool b) := by rw [h]
theorem ret_str {a b : ByteArray} (h : a = b) : Ending.returned (.string a) = .returned (.string b) := by rw [h]
theorem in_calls (a b c : Int) (w : World) : Calls Try.prog 34 #[.int .i64 a, .int .i64 b, .int .i64 c] w fun e w' => e = .returned (.bool (inB a b c)) ∧ w = w' := by
 by_cases h1 : b ≤ a
 ·have d1 := dTr h1
  clear h1
  go_enter Try.func34, Try.ntmps34
  go_wp2
  go_ret
  exact ⟨by unfold inB; rw [d1]; rfl, rfl⟩
 ·have d1 := dFa h1
  clear h1
  go_enter Try.func34, Try.ntmps34
  go_wp2
  go_ret
  exact ⟨by unfold inB; rw [d1]; rfl, rfl⟩
theorem within_calls (a b c : Int) (w : World) : Calls Try.prog 56 #[.int .i64 a, .int .i64 b, .int .i64 c] w fun e w' => e = .returned (.bool (inB a b c)) ∧ w = w' := by
 by_cases h1 : b ≤ a
 ·have d1 := dTr h1
  clear h1
  go_enter Try.func56, Try.ntmps56
  go_wp2
  go_ret
  exact ⟨by unfold inB; rw [d1]; rfl, rfl⟩
 ·have d1 := dFa h1
  clear h1
  go_enter Try.func56, Try.ntmps56
  go_wp2
  go_ret
  exact ⟨by unfold inB; rw [d1]; rfl, rfl⟩
def zeroB (x : Sb) : Bool := x.p.length == 0 && (x.s.length == 0 && (x.im == 0 && (x.fn == 0 && (x.fx == 0 && (x.pr == 0 && (x.se == 0 && (x.em == 0 && (!x.ep && (x.pad.toList.isEmpty && (x.pa == 0 && x.wd == 0))))))))))
theorem int_len (n : Nat) : ((n : Int) == 0) = (n == 0) := by
 by_cases h : n = 0
 ·subst h; rfl
 ·rw [beF h, beF (by omega)]
set_option maxHeartbeats 8000000 in
set_option maxRecDepth 100000 in
theorem zero_calls (L : Sl) (x : Sb) (w : World) : Calls Try.prog 24 #[subV L x] w fun e w' => e = .returned (.bool (zeroB x)) ∧ Below w.heap.size w w' := by
 have e1 := int_len x.p.length
 have e2 := int_len x.s.length
 by_cases h0 : (x.p.length == 0) = true
 case neg => (rw [Bool.not_eq_true] at h0; go_enter Try.func24, Try.ntmps24; go_wp2; go_ret; exact ⟨by simp [zeroB, *], below_alloc (Below.refl _ _) _⟩)
 by_cases h1 : (x.s.length == 0) = true
 case neg => (rw [Bool.not_eq_true] at h1; go_enter Try.func24, Try.ntmps24; go_wp2; go_ret; exact ⟨by simp [zeroB, *], below_alloc (Below.refl _ _) _⟩)
 by_cases h2 : (x.im == 0) = true
 case neg => (rw [Bool.not_eq_true] at h2; go_enter Try.func24, Try.ntmps24; go_wp2; go_ret; exact ⟨by simp [zeroB, *], below_alloc (Below.refl _ _) _⟩)
 by_cases h3 : (x.fn == 0) = true
 case neg => (rw [Bool.not_eq_true] at h3; go_enter Try.func24, Try.ntmps24; go_wp2; go_ret; exact ⟨by simp [zeroB, *], below_alloc (Below.refl _ _) _⟩)
 by_cases h4 : (x.fx == 0) = true
 case neg => (rw [Bool.not_eq_true] at h4; go_enter Try.func24, Try.ntmps24; go_wp2; go_ret; exact ⟨by simp [zeroB, *], below_alloc (Below.refl _ _) _⟩)
 by_cases h5 : (x.pr == 0) = true
 case neg => (rw [Bool.not_eq_true] at h5; go_enter Try.func24, Try.ntmps24; go_wp2; go_ret; exact ⟨by simp [zeroB, *], below_alloc (Below.refl _ _) _⟩)
 by_cases h6 : (x.se == 0) = true
 case neg => (rw [Bool.not_eq_true] at h6; go_enter Try.func24, Try.ntmps24; go_wp2; go_ret; exact ⟨by simp [zeroB, *], below_alloc (Below.refl _ _) _⟩)
 by_cases h7 : (x.em == 0) = true
 case neg => (rw [Bool.not_eq_true] at h7; go_enter Try.func24, Try.ntmps24; go_wp2; go_ret; exact ⟨by simp [zeroB, *], below_alloc (Below.refl _ _) _⟩)
 by_cases h8 : (!x.ep) = true
 case neg => (rw [Bool.not_eq_true] at h8; go_enter Try.func24, Try.ntmps24; go_wp2; go_ret; exact ⟨by simp [zeroB, *], below_alloc (Below.refl _ _) _⟩)
 by_cases h9 : (x.pad.toList.isEmpty) = true
 case neg => (rw [Bool.not_eq_true] at h9; go_enter Try.func24, Try.ntmps24; go_wp2; go_ret; exact ⟨by simp [zeroB, *], below_alloc (Below.refl _ _) _⟩)
 by_cases h10 : (x.pa == 0) = true
 case neg => (rw [Bool.not_eq_true] at h10; go_enter Try.func24, Try.ntmps24; go_wp2; go_ret; exact ⟨by simp [zeroB, *], below_alloc (Below.refl _ _) _⟩)
 go_enter Try.func24, Try.ntmps24
 go_wp2
 go_ret
 exact ⟨by simp [zeroB, *], below_alloc (Below.refl _ _) _⟩
end Go.Proofs.Ytacnjemndfmbhaa.Q
end
section
namespace Go.Proofs.Ytacnjemndfmbhaa.Q
open Go.RowKit Go.Proofs.YtacnjemndfmbhaaW.PrintWords Go.Proofs.YtacnjemndfmbhaaW.PrintLast Go.Proofs.YtacnjemndfmbhaaW.PrintMore
attribute [local go_sem] max2_int min2_int max_two min_two max_three min_three max_four min_four   -- for this text's walks alone
set_option linter.unusedVariables false
set_option linter.unusedSimpArgs false
theorem eqA53 (d : Nat) (w : World) (x0 y0 : Int) (x1 y1 : Int) (x2 y2 : ByteArray) :
  (Op.equalIn (d + 2) 53 (.agg #[.int .i64 x0, .int .i64 x1, .string x2]) (.agg #[.int .i64 y0, .int .i64 y1, .string y2])).run Try.prog w = .ok (x0 == y0 && (x1 == y1 && (x2.toList == y2.toList))) w := by
 refine eqA_of Try.underlying53 (by kernel_rfl) ?_
 refine eqf_cons (by rfl) (by go_simp; rfl) (by go_simp; rfl) (by go_simp) ?_
 refine eqf_cons (by rfl) (by go_simp; rfl) (by go_simp; rfl) (by go_simp) ?_
 exact eqf_last (by rfl) (by go_simp; rfl) (by go_simp; rfl) (by go_simp)
def cursor_second.f (a0 : Int) : Option (Int × Int × Int) := if a0 < 128 then (some (0, 0, 1)) else (if a0 < 194 then (some (0, 0, 0)) else (if a0 < 224 then (some (128, 191, 2)) else (if a0 = 224 then (some (160, 191, 3)) else (if a0 = 237 then (some (128, 159, 3)) else (if a0 < 240 then (some (128, 191, 3)) else (if a0 = 240 then (some (144, 191, 4)) else (if a0 < 244 then (some (128, 191, 4)) else (if a0 = 244 then (some (128, 143, 4)) else (some (0, 0, 0))))))))))
set_option maxHeartbeats 8000000 in
set_option maxRecDepth 100000 in
theorem cursor_second.calls (a0 : Int) (r1 : Int) (r2 : Int) (r3 : Int) (w : World) (h : cursor_second.f a0 = some (r1, r2, r3)) :
  Calls Try.prog 83 #[.int .u8 a0] w fun e w' => e = .returned (.tuple #[.int .u8 r1, .int .u8 r2, .int .i64 r3]) ∧ Drawn0 w w' := by
 have H : (if a0 < 128 then (some (0, 0, 1)) else (if a0 < 194 then (some (0, 0, 0)) else (if a0 < 224 then (some (128, 191, 2)) else (if a0 = 224 then (some (160, 191, 3)) else (if a0 = 237 then (some (128, 159, 3)) else (if a0 < 240 then (some (128, 191, 3)) else (if a0 = 240 then (some (144, 191, 4)) else (if a0 < 244 then (some (128, 191, 4)) else (if a0 = 244 then (some (128, 143, 4)) else (some (0, 0, 0))))))))))) = some (r1, r2, r3) := h
 clear h
 by_cases c2 : a0 < 128
 ·rw [if_pos c2] at H
  have c2b0 : decide (a0 < 128) = true := dTr c2
  clear c2
  exact aP6
 ·rw [if_neg c2] at H
  have c2b0 : decide (a0 < 128) = false := dFa c2
  clear c2
  by_cases c3 : a0 < 194
  ·rw [if_pos c3] at H
   have c3b0 : decide (a0 < 194) = true := dTr c3
   clear c3
   exact aP6
  ·rw [if_neg c3] at H
   have c3b0 : decide (a0 < 194) = false := dFa c3
   clear c3
   by_cases c4 : a0 < 224
   ·rw [if_pos c4] at H
    have c4b0 : decide (a0 < 224) = true := dTr c4
    clear c4
    exact aP6
   ·rw [if_neg c4] at H
    have c4b0 : decide (a0 < 224) = false := dFa c4
    clear c4
    by_cases c5 : a0 = 224
    ·rw [if_pos c5] at H
     have c5b0 : (a0 == 224) = true := beT c5
     have c5b1 : (a0 != 224) = false := bnF c5
     clear c5
     exact aP6
    ·rw [if_neg c5] at H
     have c5b0 : (a0 == 224) = false := beF c5
     have c5b1 : (a0 != 224) = true := bnT c5
     by_cases c6 : a0 = 237
     ·rw [if_pos c6] at H
      have c6b0 : (a0 == 237) = true := beT c6
      have c6b1 : (a0 != 237) = false := bnF c6
      clear c6
      exact aP6
     ·rw [if_neg c6] at H
      have c6b0 : (a0 == 237) = false := beF c6
      have c6b1 : (a0 != 237) = true := bnT c6
      by_cases c7 : a0 < 240
      ·rw [if_pos c7] at H
       have c7b0 : decide (a0 < 240) = true := dTr c7
       clear c7
       exact aP6
      ·rw [if_neg c7] at H
       have c7b0 : decide (a0 < 240) = false := dFa c7
       clear c7
       by_cases c8 : a0 = 240
       ·rw [if_pos c8] at H
        have c8b0 : (a0 == 240) = true := beT c8
        have c8b1 : (a0 != 240) = false := bnF c8
        clear c8
        exact aP6
       ·rw [if_neg c8] at H
        have c8b0 : (a0 == 240) = false := beF c8
        have c8b1 : (a0 != 240) = true := bnT c8
        by_cases c9 : a0 < 244
        ·rw [if_pos c9] at H
         have c9b0 : decide (a0 < 244) = true := dTr c9
         clear c9
         exact aP6
        ·rw [if_neg c9] at H
         have c9b0 : decide (a0 < 244) = false := dFa c9
         clear c9
         by_cases c10 : a0 = 244
         ·rw [if_pos c10] at H
          have c10b0 : (a0 == 244) = true := beT c10
          have c10b1 : (a0 != 244) = false := bnF c10
          clear c10
          exact aP6
         ·rw [if_neg c10] at H
          have c10b0 : (a0 == 244) = false := beF c10
          have c10b1 : (a0 != 244) = true := bnT c10
          exact aP6
mutual
def cursor_Rune.j0 : Nat → ByteArray → Int → Bool → Option (Int)
 | 0, _, _, _ => none
 | k + 1, x0, x1, x17 => if x17 = true then (some 0) else (if 0 ≤ x1 then (if x1 < (x0.size : Int) then ((cursor_second.f (bt x0 x1)).bind fun bt101 => (if bt101.2.2 > (wrap64 ((x0.size : Int) - x1)) then (some 0) else (cursor_Rune.l0 k x0 x1 bt101.1 bt101.2.1 bt101.2.2 1))) else (none)) else (none))
def cursor_Rune.l0 : Nat → ByteArray → Int → Int → Int → Int → Int → Option (Int)
 | 0, _, _, _, _, _, _ => none
 | k + 1, x0, x1, x5, x6, x7, x8 => if x8 < x7 then (if 0 ≤ (wrap64 (x1 + x8)) then (if (wrap64 (x1 + x8)) < (x0.size : Int) then (if (bt x0 (wrap64 (x1 + x8))) < x5 then (some 0) else (if (bt x0 (wrap64 (x1 + x8))) > x6 then (some 0) else (cursor_Rune.l0 k x0 x1 128 191 x7 (wrap64 (x8 + 1))))) else (none)) else (none)) else (some x7)
end
def cursor_Rune.f (k : Nat) (a0 : ByteArray) (a1 : Int) : Option (Int) := if a1 < 0 then (cursor_Rune.j0 k a0 a1 true) else (cursor_Rune.j0 k a0 a1 (decide (a1 ≥ (a0.size : Int))))
set_option maxHeartbeats 8000000 in
set_option maxRecDepth 100000 in
theorem cursor_Rune.calls (k : Nat) (a0 : ByteArray) (a1 : Int) (r : Int) (w : World) (h : cursor_Rune.f k a0 a1 = some r) :
  Calls Try.prog 62 #[.string a0, .int .i64 a1] w fun e w' => e = .returned (.int .i64 r) ∧ Drawn0 w w' := by
 have H : (if a1 < 0 then (cursor_Rune.j0 k a0 a1 true) else (cursor_Rune.j0 k a0 a1 (decide (a1 ≥ (a0.size : Int))))) = some r := h
 clear h
 have HC3 := aMk H
 clear H
 go_enter Try.func62, Try.ntmps62
 go_upto_region 1 with (fail)
 go_cut [17] (fun v17 wc => ∃ (kq : Nat) (x17_2 : Bool), v17 = .bool x17_2 ∧ Aside0 (cursor_Rune.j0 kq a0 a1 x17_2 = some r) ∧ Aside0 (kq ≤ k) ∧ Drawn0 w wc)
 case first =>
  exact aP5
 case rest =>
  clear HC3
  try clear p2
  try clear c4
  try clear c4b0
  obtain ⟨kq, x17_2, rfl, HA, HJ2, ⟨mc2, rfl⟩⟩ := hcut
  cases kq with
  | zero => exact absurd HA.out (by simp [cursor_Rune.j0])
  | succ kj2 =>
   have H := HA.out
   clear HA
   simp only [cursor_Rune.j0] at H
   by_cases c5 : x17_2 = true
   ·exact aP4
   ·replace c5 := Bool.eq_false_iff.mpr c5
    subst c5
    have H1 : (if 0 ≤ a1 then (if a1 < (a0.size : Int) then ((cursor_second.f (bt a0 a1)).bind fun bt101 => (if bt101.2.2 > (wrap64 ((a0.size : Int) - a1)) then (some 0) else (cursor_Rune.l0 kj2 a0 a1 bt101.1 bt101.2.1 bt101.2.2 1))) else (none)) else (none)) = some r := aP74
    clear H
    have H := H1
    clear H1
    by_cases c6 : 0 ≤ a1
    ·rw [if_pos c6] at H
     have c6b0 : decide (0 ≤ a1) = true := dTr c6
     clear c6
     by_cases c7 : a1 < (a0.size : Int)
     ·rw [if_pos c7] at H
      have c7b0 : decide (a1 < (a0.size : Int)) = true := dTr c7
      clear c7
      replace H := Option.bind_eq_some_iff.mp H
      obtain ⟨⟨t101, t102, t103⟩, A90, H⟩ := H
      replace H : (if t103 > (wrap64 ((a0.size : Int) - a1)) then (some 0) else (cursor_Rune.l0 kj2 a0 a1 t101 t102 t103 1)) = some r := H
      have A9 := aMk A90
      clear A90
      by_cases c10 : t103 > (wrap64 ((a0.size : Int) - a1))
      ·rw [if_pos c10] at H
       have c10b0 : decide ((wrap64 ((a0.size : Int) - a1)) < t103) = true := dTr c10
       clear c10
       obtain rfl := Option.some.inj H
       have p8 : 0 ≤ (a1 : Int) := of_decide_eq_true (aP75)
       have q8 : a1 < (a0.size : Int) := of_decide_eq_true (aP75)
       have hx8 := bt_at a0 a1
       replace p8 := eq_true p8
       replace q8 := eq_true q8
       go_wp2_with (first | ((with_reducible refine gate_callee (f := 83) rfl ?_); refine goesL_ (some 22) rfl rfl Try.func83 (by kernel_rfl) rfl #[.int .u8 (bt a0 a1)] rfl (aP76) ?_; (with_reducible refine (cursor_second.calls (bt a0 a1) t101 t102 t103 _ A9.out).mono ?_); rintro e w' ⟨rfl, ⟨nd, rfl⟩⟩; refine ⟨_, rfl, ?_⟩))
       go_ret
       exact ⟨aP77, aP78⟩
      ·rw [if_neg c10] at H
       have c10b0 : decide ((wrap64 ((a0.size : Int) - a1)) < t103) = false := dFa c10
       clear c10
       have H' := aMk H
       clear H
       have p8 : 0 ≤ (a1 : Int) := of_decide_eq_true (aP75)
       have q8 : a1 < (a0.size : Int) := of_decide_eq_true (aP75)
       have hx8 := bt_at a0 a1
       replace p8 := eq_true p8
       replace q8 := eq_true q8
       go_wp2_with (first | ((with_reducible refine gate_callee (f := 83) rfl ?_); refine goesL_ (some 22) rfl rfl Try.func83 (by kernel_rfl) rfl #[.int .u8 (bt a0 a1)] rfl (aP76) ?_; (with_reducible refine (cursor_second.calls (bt a0 a1) t101 t102 t103 _ A9.out).mono ?_); rintro e w' ⟨rfl, ⟨nd, rfl⟩⟩; refine ⟨_, rfl, ?_⟩))
       go_loopg [5, 6, 8] kj2 (fun kq v5 v6 v8 w' => ∃ (x5_2 : Int) (x6_2 : Int) (x8_2 : Int), v5 = .int .u8 x5_2 ∧ v6 = .int .u8 x6_2 ∧ v8 = .int .i64 x8_2 ∧ Aside0 (cursor_Rune.l0 kq a0 a1 x5_2 x6_2 t103 x8_2 = some r) ∧ Aside0 (kq ≤ kj2) ∧ Drawn0 w w')
       case atStart => exact ⟨(t101), (t102), (1), (aP77), (aP77), (aP77), H', ⟨Nat.le_refl _⟩, aP78⟩
       case round =>
        clear H'
        try clear c1
        try clear c2
        try clear p2
        try clear c4
        try clear c4b0
        try clear c5
        try clear c6
        try clear c6b0
        try clear p6
        try clear c7
        try clear c7b0
        try clear c8
        try clear p8
        try clear q8
        try clear hx8
        try clear c10
        try clear c10b0
        try clear p2
        try clear p8
        try clear q8
        obtain ⟨x5_2, x6_2, x8_2, rfl, rfl, rfl, HA, HK2, ⟨m2, rfl⟩⟩ := hrel
        cases gk with
        | zero => exact absurd HA.out (by simp [cursor_Rune.l0])
        | succ k2 =>
         have H := HA.out
         clear HA
         simp only [cursor_Rune.l0] at H
         by_cases c11 : x8_2 < t103
         ·rw [if_pos c11] at H
          have c11b0 : decide (x8_2 < t103) = true := dTr c11
          clear c11
          obtain ⟨ji12, hji12⟩ : ∃ j_ : Int, (wrap64 (a1 + x8_2)) = j_ := ⟨_, rfl⟩
          replace H : (if 0 ≤ (ji12) then (if (ji12) < (a0.size : Int) then (if (bt a0 (ji12)) < x5_2 then (some 0) else (if (bt a0 (ji12)) > x6_2 then (some 0) else (cursor_Rune.l0 k2 a0 a1 128 191 t103 (wrap64 (x8_2 + 1))))) else (none)) else (none)) = some r := by first | (rw [hji12] at H; exact H) | (simp only [hji12] at H ⊢; exact H)
          have hji12w : (IntKind.i64.wrap (a1 + x8_2)) = ji12 := (i64_w _).trans hji12
          by_cases c13 : 0 ≤ (ji12)
          ·rw [if_pos c13] at H
           have c13b0 : decide (0 ≤ (ji12)) = true := dTr c13
           clear c13
           by_cases c14 : (ji12) < (a0.size : Int)
           ·rw [if_pos c14] at H
            have c14b0 : decide ((ji12) < (a0.size : Int)) = true := dTr c14
            clear c14
            by_cases c16 : (bt a0 (ji12)) < x5_2
            ·rw [if_pos c16] at H
             have c16b0 : decide ((bt a0 (ji12)) < x5_2) = true := dTr c16
             clear c16
             exact aP3
            ·rw [if_neg c16] at H
             have c16b0 : decide ((bt a0 (ji12)) < x5_2) = false := dFa c16
             clear c16
             by_cases c17 : (bt a0 (ji12)) > x6_2
             ·rw [if_pos c17] at H
              have c17b0 : decide (x6_2 < (bt a0 (ji12))) = true := dTr c17
              clear c17
              exact aP3
             ·rw [if_neg c17] at H
              have c17b0 : decide (x6_2 < (bt a0 (ji12))) = false := dFa c17
              clear c17
              have H' := aMk H
              clear H
              have p15 : 0 ≤ ((ji12) : Int) := of_decide_eq_true (aP75)
              have q15 : (ji12) < (a0.size : Int) := of_decide_eq_true (aP75)
              have hx15 := bt_at a0 (ji12)
              replace p15 := eq_true p15
              replace q15 := eq_true q15
              go_wp2
              go_roundg k2
              case measure => have := HJ2.out; have := HK2.out; omega
              case rel => exact ⟨(128), (191), (wrap64 (x8_2 + 1)), (aP77), (aP77), (aP77), H', ⟨by have := HJ2.out; have := HK2.out; omega⟩, aP78⟩
           ·rw [if_neg c14] at H
            exact absurd H (by simp)
          ·rw [if_neg c13] at H
           exact absurd H (by simp)
         ·rw [if_neg c11] at H
          have c11b0 : decide (x8_2 < t103) = false := dFa c11
          clear c11
          exact aP2
     ·rw [if_neg c7] at H
      exact absurd H (by simp)
    ·rw [if_neg c6] at H
     exact absurd H (by simp)
def cursor_Runes.l0 : Nat → ByteArray → Int → Int → Option (Int)
 | 0, _, _, _ => none
 | k + 1, x0, x3, x4 => if x4 < (x0.size : Int) then ((cursor_Rune.f k x0 x4).bind fun t104 => (if t104 = 0 then (some (-1)) else (cursor_Runes.l0 k x0 (wrap64 (x3 + 1)) (wrap64 (x4 + t104))))) else (some x3)
def cursor_Runes.f (k : Nat) (a0 : ByteArray) : Option (Int) := cursor_Runes.l0 k a0 0 0
set_option maxHeartbeats 8000000 in
set_option maxRecDepth 100000 in
theorem cursor_Runes.calls (k : Nat) (a0 : ByteArray) (r : Int) (w : World) (h : cursor_Runes.f k a0 = some r) :
  Calls Try.prog 35 #[.string a0] w fun e w' => e = .returned (.int .i64 r) ∧ Drawn0 w w' := by
 have H : (cursor_Runes.l0 k a0 0 0) = some r := h
 clear h
 have H' := aMk H
 clear H
 go_enter Try.func35, Try.ntmps35
 go_wp2
 go_loopg [3, 4] k (fun kq v3 v4 w' => ∃ (x3_1 : Int) (x4_1 : Int), v3 = .int .i64 x3_1 ∧ v4 = .int .i64 x4_1 ∧ Aside0 (cursor_Runes.l0 kq a0 x3_1 x4_1 = some r) ∧ Aside0 (kq ≤ k) ∧ Drawn0 w w')
 case atStart => exact ⟨(0), (0), (aP77), (aP77), H', ⟨Nat.le_refl _⟩, aP78⟩
 case round =>
  clear H'
  obtain ⟨x3_1, x4_1, rfl, rfl, HA, HK1, ⟨m1, rfl⟩⟩ := hrel
  cases gk with
  | zero => exact absurd HA.out (by simp [cursor_Runes.l0])
  | succ k1 =>
   have H := HA.out
   clear HA
   simp only [cursor_Runes.l0] at H
   by_cases c2 : x4_1 < (a0.size : Int)
   ·rw [if_pos c2] at H
    have c2b0 : decide (x4_1 < (a0.size : Int)) = true := dTr c2
    clear c2
    replace H := Option.bind_eq_some_iff.mp H
    obtain ⟨t104, A30, H⟩ := H
    replace H : (if t104 = 0 then (some (-1)) else (cursor_Runes.l0 k1 a0 (wrap64 (x3_1 + 1)) (wrap64 (x4_1 + t104)))) = some r := H
    have A3 := aMk A30
    clear A30
    by_cases c4 : t104 = 0
    ·rw [if_pos c4] at H
     have c4b0 : (t104 == 0) = true := beT c4
     have c4b1 : (t104 != 0) = false := bnF c4
     clear c4
     obtain rfl := Option.some.inj H
     go_wp2_with (first | ((with_reducible refine gate_callee (f := 62) rfl ?_); refine goesL_ (some 14) rfl rfl Try.func62 (by kernel_rfl) rfl #[.string a0, .int .i64 x4_1] rfl (aP76) ?_; (with_reducible refine (cursor_Rune.calls k1 a0 x4_1 t104 _ A3.out).mono ?_); rintro e w' ⟨rfl, ⟨nd, rfl⟩⟩; refine ⟨_, rfl, ?_⟩))
     go_ret
     exact ⟨aP77, aP78⟩
    ·rw [if_neg c4] at H
     have c4b0 : (t104 == 0) = false := beF c4
     have c4b1 : (t104 != 0) = true := bnT c4
     have H' := aMk H
     clear H
     go_wp2_with (first | ((with_reducible refine gate_callee (f := 62) rfl ?_); refine goesL_ (some 14) rfl rfl Try.func62 (by kernel_rfl) rfl #[.string a0, .int .i64 x4_1] rfl (aP76) ?_; (with_reducible refine (cursor_Rune.calls k1 a0 x4_1 t104 _ A3.out).mono ?_); rintro e w' ⟨rfl, ⟨nd, rfl⟩⟩; refine ⟨_, rfl, ?_⟩))
     go_roundg k1
     case measure => have := HK1.out; omega
     case rel => exact ⟨(wrap64 (x3_1 + 1)), (wrap64 (x4_1 + t104)), (aP77), (aP77), H', ⟨by have := HK1.out; omega⟩, aP78⟩
   ·exact aP1
def quipuref11_within.f (a0 : ByteArray) (a1 : Int) (a2 : Int) (a3 : Int) : Option (Bool) := if a1 < (a0.size : Int) then (if 0 ≤ a1 then (if (wrap64 (bt a0 a1)) ≥ a2 then (some (decide ((wrap64 (bt a0 a1)) ≤ a3))) else (some false)) else (none)) else (some false)
set_option maxHeartbeats 8000000 in
set_option maxRecDepth 100000 in
theorem quipuref11_within.calls (a0 : ByteArray) (a1 : Int) (a2 : Int) (a3 : Int) (r : Bool) (w : World) (h : quipuref11_within.f a0 a1 a2 a3 = some r) :
  Calls Try.prog 87 #[.string a0, .int .i64 a1, .int .i64 a2, .int .i64 a3] w fun e w' => e = .returned (.bool r) ∧ Drawn0 w w' := by
 have H : (if a1 < (a0.size : Int) then (if 0 ≤ a1 then (if (wrap64 (bt a0 a1)) ≥ a2 then (some (decide ((wrap64 (bt a0 a1)) ≤ a3))) else (some false)) else (none)) else (some false)) = some r := h
 clear h
 by_cases c5 : a1 < (a0.size : Int)
 ·rw [if_pos c5] at H
  have c5b0 : decide (a1 < (a0.size : Int)) = true := dTr c5
  clear c5
  by_cases c6 : 0 ≤ a1
  ·rw [if_pos c6] at H
   have c6b0 : decide (0 ≤ a1) = true := dTr c6
   clear c6
   by_cases c8 : (wrap64 (bt a0 a1)) ≥ a2
   ·rw [if_pos c8] at H
    have c8b0 : decide (a2 ≤ (wrap64 (bt a0 a1))) = true := dTr c8
    clear c8
    obtain rfl := Option.some.inj H
    have p7 : 0 ≤ (a1 : Int) := of_decide_eq_true (aP75)
    have q7 : a1 < (a0.size : Int) := of_decide_eq_true (aP75)
    have hx7 := bt_at a0 a1
    replace p7 := eq_true p7
    replace q7 := eq_true q7
    have p9 : 0 ≤ (a1 : Int) := of_decide_eq_true (aP75)
    have q9 : a1 < (a0.size : Int) := of_decide_eq_true (aP75)
    have hx9 := bt_at a0 a1
    replace p9 := eq_true p9
    replace q9 := eq_true q9
    exact aP0
   ·rw [if_neg c8] at H
    have c8b0 : decide (a2 ≤ (wrap64 (bt a0 a1))) = false := dFa c8
    clear c8
    obtain rfl := Option.some.inj H
    have p7 : 0 ≤ (a1 : Int) := of_decide_eq_true (aP75)
    have q7 : a1 < (a0.size : Int) := of_decide_eq_true (aP75)
    have hx7 := bt_at a0 a1
    replace p7 := eq_true p7
    replace q7 := eq_true q7
    exact aP0
  ·rw [if_neg c6] at H
   exact absurd H (by simp)
 ·rw [if_neg c5] at H
  have c5b0 : decide (a1 < (a0.size : Int)) = false := dFa c5
  clear c5
  obtain rfl := Option.some.inj H
  exact aP0
mutual
def quipuref11_Rune.j0 : Nat → ByteArray → Int → Bool → Option (Int)
 | 0, _, _, _ => none
 | k + 1, x0, x1, x16 => if x16 = true then (some 0) else (if 0 ≤ x1 then (if x1 < (x0.size : Int) then ((quipuref11_within.f x0 (wrap64 (x1 + 1)) 128 191).bind fun t105 => ((quipuref11_within.f x0 (wrap64 (x1 + 2)) 128 191).bind fun t106 => ((quipuref11_within.f x0 (wrap64 (x1 + 3)) 128 191).bind fun t107 => (if (wrap64 (bt x0 x1)) < 128 then (some 1) else (if (wrap64 (bt x0 x1)) ≥ 194 then (if (wrap64 (bt x0 x1)) ≤ 223 then (quipuref11_Rune.j1 k x0 x1 (wrap64 (bt x0 x1)) t105 t106 t107 t105) else (quipuref11_Rune.j1 k x0 x1 (wrap64 (bt x0 x1)) t105 t106 t107 false)) else (quipuref11_Rune.j1 k x0 x1 (wrap64 (bt x0 x1)) t105 t106 t107 false)))))) else (none)) else (none))
def quipuref11_Rune.j1 : Nat → ByteArray → Int → Int → Bool → Bool → Bool → Bool → Option (Int)
 | 0, _, _, _, _, _, _, _ => none
 | k + 1, x0, x1, x5, x6, x7, x8, x36 => if x36 = true then (some 2) else (if x5 = 224 then ((quipuref11_within.f x0 (wrap64 (x1 + 1)) 160 191).bind fun t108 => (if t108 = true then (quipuref11_Rune.j2 k x0 x1 x5 x6 x7 x8 x7) else (quipuref11_Rune.j2 k x0 x1 x5 x6 x7 x8 false))) else (quipuref11_Rune.j2 k x0 x1 x5 x6 x7 x8 false))
def quipuref11_Rune.j2 : Nat → ByteArray → Int → Int → Bool → Bool → Bool → Bool → Option (Int)
 | 0, _, _, _, _, _, _, _ => none
 | k + 1, x0, x1, x5, x6, x7, x8, x46 => if x46 = true then (some 3) else (if x5 ≥ 225 then (if x5 ≤ 236 then (if x6 = true then (quipuref11_Rune.j3 k x0 x1 x5 x6 x7 x8 x7) else (quipuref11_Rune.j3 k x0 x1 x5 x6 x7 x8 false)) else (quipuref11_Rune.j3 k x0 x1 x5 x6 x7 x8 false)) else (quipuref11_Rune.j3 k x0 x1 x5 x6 x7 x8 false))
def quipuref11_Rune.j3 : Nat → ByteArray → Int → Int → Bool → Bool → Bool → Bool → Option (Int)
 | 0, _, _, _, _, _, _, _ => none
 | k + 1, x0, x1, x5, x6, x7, x8, x58 => if x58 = true then (quipuref11_Rune.j4 k x0 x1 x5 x6 x7 x8 x58) else (if x5 = 238 then (if x6 = true then (quipuref11_Rune.j4 k x0 x1 x5 x6 x7 x8 x7) else (quipuref11_Rune.j4 k x0 x1 x5 x6 x7 x8 false)) else (if x5 = 239 then (if x6 = true then (quipuref11_Rune.j4 k x0 x1 x5 x6 x7 x8 x7) else (quipuref11_Rune.j4 k x0 x1 x5 x6 x7 x8 false)) else (quipuref11_Rune.j4 k x0 x1 x5 x6 x7 x8 false)))
def quipuref11_Rune.j4 : Nat → ByteArray → Int → Int → Bool → Bool → Bool → Bool → Option (Int)
 | 0, _, _, _, _, _, _, _ => none
 | k + 1, x0, x1, x5, x6, x7, x8, x58 => if x58 = true then (some 3) else (if x5 = 237 then ((quipuref11_within.f x0 (wrap64 (x1 + 1)) 128 159).bind fun t109 => (if t109 = true then (quipuref11_Rune.j5 k x0 x1 x5 x6 x7 x8 x7) else (quipuref11_Rune.j5 k x0 x1 x5 x6 x7 x8 false))) else (quipuref11_Rune.j5 k x0 x1 x5 x6 x7 x8 false))
def quipuref11_Rune.j5 : Nat → ByteArray → Int → Int → Bool → Bool → Bool → Bool → Option (Int)
 | 0, _, _, _, _, _, _, _ => none
 | k + 1, x0, x1, x5, x6, x7, x8, x83 => if x83 = true then (some 3) else (if x5 = 240 then ((quipuref11_within.f x0 (wrap64 (x1 + 1)) 144 191).bind fun t110 => (if t110 = true then (if x7 = true then (quipuref11_Rune.j6 k x0 x1 x5 x6 x7 x8 x8) else (quipuref11_Rune.j6 k x0 x1 x5 x6 x7 x8 false)) else (quipuref11_Rune.j6 k x0 x1 x5 x6 x7 x8 false))) else (quipuref11_Rune.j6 k x0 x1 x5 x6 x7 x8 false))
def quipuref11_Rune.j6 : Nat → ByteArray → Int → Int → Bool → Bool → Bool → Bool → Option (Int)
 | 0, _, _, _, _, _, _, _ => none
 | k + 1, x0, x1, x5, x6, x7, x8, x95 => if x95 = true then (some 4) else (if x5 ≥ 241 then (if x5 ≤ 243 then (if x6 = true then (if x7 = true then (quipuref11_Rune.j7 k x0 x1 x5 x7 x8 x8) else (quipuref11_Rune.j7 k x0 x1 x5 x7 x8 false)) else (quipuref11_Rune.j7 k x0 x1 x5 x7 x8 false)) else (quipuref11_Rune.j7 k x0 x1 x5 x7 x8 false)) else (quipuref11_Rune.j7 k x0 x1 x5 x7 x8 false))
def quipuref11_Rune.j7 : Nat → ByteArray → Int → Int → Bool → Bool → Bool → Option (Int)
 | 0, _, _, _, _, _, _ => none
 | k + 1, x0, x1, x5, x7, x8, x110 => if x110 = true then (some 4) else (if x5 = 244 then ((quipuref11_within.f x0 (wrap64 (x1 + 1)) 128 143).bind fun t111 => (if t111 = true then (if x7 = true then (if x8 = true then (some 4) else (some 0)) else (some 0)) else (some 0))) else (some 0))
end
def quipuref11_Rune.f (k : Nat) (a0 : ByteArray) (a1 : Int) : Option (Int) := if a1 < 0 then (quipuref11_Rune.j0 k a0 a1 true) else (quipuref11_Rune.j0 k a0 a1 (decide (a1 ≥ (a0.size : Int))))
set_option maxHeartbeats 8000000 in
set_option maxRecDepth 100000 in
theorem quipuref11_Rune.calls (k : Nat) (a0 : ByteArray) (a1 : Int) (r : Int) (w : World) (h : quipuref11_Rune.f k a0 a1 = some r) :
  Calls Try.prog 68 #[.string a0, .int .i64 a1] w fun e w' => e = .returned (.int .i64 r) ∧ Drawn0 w w' := by
 have H : (if a1 < 0 then (quipuref11_Rune.j0 k a0 a1 true) else (quipuref11_Rune.j0 k a0 a1 (decide (a1 ≥ (a0.size : Int))))) = some r := h
 clear h
 have HC3 := aMk H
 clear H
 go_enter Try.func68, Try.ntmps68
 go_upto_region 1 with (fail)
 go_cut [16] (fun v16 wc => ∃ (kq : Nat) (x16_2 : Bool), v16 = .bool x16_2 ∧ Aside0 (quipuref11_Rune.j0 kq a0 a1 x16_2 = some r) ∧ Aside0 (kq ≤ k) ∧ Drawn0 w wc)
 case first =>
  exact aP5
 case rest =>
  clear HC3
  try clear p2
  try clear c4
  try clear c4b0
  obtain ⟨kq, x16_2, rfl, HA, HJ2, ⟨mc2, rfl⟩⟩ := hcut
  cases kq with
  | zero => exact absurd HA.out (by simp [quipuref11_Rune.j0])
  | succ kj2 =>
   have H := HA.out
   clear HA
   simp only [quipuref11_Rune.j0] at H
   by_cases c5 : x16_2 = true
   ·exact aP4
   ·replace c5 := Bool.eq_false_iff.mpr c5
    subst c5
    have H1 : (if 0 ≤ a1 then (if a1 < (a0.size : Int) then ((quipuref11_within.f a0 (wrap64 (a1 + 1)) 128 191).bind fun t105 => ((quipuref11_within.f a0 (wrap64 (a1 + 2)) 128 191).bind fun t106 => ((quipuref11_within.f a0 (wrap64 (a1 + 3)) 128 191).bind fun t107 => (if (wrap64 (bt a0 a1)) < 128 then (some 1) else (if (wrap64 (bt a0 a1)) ≥ 194 then (if (wrap64 (bt a0 a1)) ≤ 223 then (quipuref11_Rune.j1 kj2 a0 a1 (wrap64 (bt a0 a1)) t105 t106 t107 t105) else (quipuref11_Rune.j1 kj2 a0 a1 (wrap64 (bt a0 a1)) t105 t106 t107 false)) else (quipuref11_Rune.j1 kj2 a0 a1 (wrap64 (bt a0 a1)) t105 t106 t107 false)))))) else (none)) else (none)) = some r := aP74
    clear H
    have H := H1
    clear H1
    by_cases c6 : 0 ≤ a1
    ·rw [if_pos c6] at H
     have c6b0 : decide (0 ≤ a1) = true := dTr c6
     clear c6
     by_cases c7 : a1 < (a0.size : Int)
     ·rw [if_pos c7] at H
      have c7b0 : decide (a1 < (a0.size : Int)) = true := dTr c7
      clear c7
      replace H := Option.bind_eq_some_iff.mp H
      obtain ⟨t105, A90, H⟩ := H
      replace H : ((quipuref11_within.f a0 (wrap64 (a1 + 2)) 128 191).bind fun t106 => ((quipuref11_within.f a0 (wrap64 (a1 + 3)) 128 191).bind fun t107 => (if (wrap64 (bt a0 a1)) < 128 then (some 1) else (if (wrap64 (bt a0 a1)) ≥ 194 then (if (wrap64 (bt a0 a1)) ≤ 223 then (quipuref11_Rune.j1 kj2 a0 a1 (wrap64 (bt a0 a1)) t105 t106 t107 t105) else (quipuref11_Rune.j1 kj2 a0 a1 (wrap64 (bt a0 a1)) t105 t106 t107 false)) else (quipuref11_Rune.j1 kj2 a0 a1 (wrap64 (bt a0 a1)) t105 t106 t107 false))))) = some r := H
      have A9 := aMk A90
      clear A90
      replace H := Option.bind_eq_some_iff.mp H
      obtain ⟨t106, A100, H⟩ := H
      replace H : ((quipuref11_within.f a0 (wrap64 (a1 + 3)) 128 191).bind fun t107 => (if (wrap64 (bt a0 a1)) < 128 then (some 1) else (if (wrap64 (bt a0 a1)) ≥ 194 then (if (wrap64 (bt a0 a1)) ≤ 223 then (quipuref11_Rune.j1 kj2 a0 a1 (wrap64 (bt a0 a1)) t105 t106 t107 t105) else (quipuref11_Rune.j1 kj2 a0 a1 (wrap64 (bt a0 a1)) t105 t106 t107 false)) else (quipuref11_Rune.j1 kj2 a0 a1 (wrap64 (bt a0 a1)) t105 t106 t107 false)))) = some r := H
      have A10 := aMk A100
      clear A100
      replace H := Option.bind_eq_some_iff.mp H
      obtain ⟨t107, A110, H⟩ := H
      replace H : (if (wrap64 (bt a0 a1)) < 128 then (some 1) else (if (wrap64 (bt a0 a1)) ≥ 194 then (if (wrap64 (bt a0 a1)) ≤ 223 then (quipuref11_Rune.j1 kj2 a0 a1 (wrap64 (bt a0 a1)) t105 t106 t107 t105) else (quipuref11_Rune.j1 kj2 a0 a1 (wrap64 (bt a0 a1)) t105 t106 t107 false)) else (quipuref11_Rune.j1 kj2 a0 a1 (wrap64 (bt a0 a1)) t105 t106 t107 false))) = some r := H
      have A11 := aMk A110
      clear A110
      by_cases c12 : (wrap64 (bt a0 a1)) < 128
      ·rw [if_pos c12] at H
       have c12b0 : decide ((wrap64 (bt a0 a1)) < 128) = true := dTr c12
       clear c12
       obtain rfl := Option.some.inj H
       have p8 : 0 ≤ (a1 : Int) := of_decide_eq_true (aP75)
       have q8 : a1 < (a0.size : Int) := of_decide_eq_true (aP75)
       have hx8 := bt_at a0 a1
       replace p8 := eq_true p8
       replace q8 := eq_true q8
       go_wp2_with (first | ((with_reducible refine gate_callee (f := 87) rfl ?_); refine goesL_ (some 24) rfl rfl Try.func87 (by kernel_rfl) rfl #[.string a0, .int .i64 (wrap64 (a1 + 1)), .int .i64 128, .int .i64 191] rfl (aP76) ?_; (with_reducible refine (quipuref11_within.calls a0 (wrap64 (a1 + 1)) 128 191 t105 _ A9.out).mono ?_); rintro e w' ⟨rfl, ⟨nd, rfl⟩⟩; refine ⟨_, rfl, ?_⟩) | ((with_reducible refine gate_callee (f := 87) rfl ?_); refine goesL_ (some 28) rfl rfl Try.func87 (by kernel_rfl) rfl #[.string a0, .int .i64 (wrap64 (a1 + 2)), .int .i64 128, .int .i64 191] rfl (aP76) ?_; (with_reducible refine (quipuref11_within.calls a0 (wrap64 (a1 + 2)) 128 191 t106 _ A10.out).mono ?_); rintro e w' ⟨rfl, ⟨nd, rfl⟩⟩; refine ⟨_, rfl, ?_⟩) | ((with_reducible refine gate_callee (f := 87) rfl ?_); refine goesL_ (some 32) rfl rfl Try.func87 (by kernel_rfl) rfl #[.string a0, .int .i64 (wrap64 (a1 + 3)), .int .i64 128, .int .i64 191] rfl (aP76) ?_; (with_reducible refine (quipuref11_within.calls a0 (wrap64 (a1 + 3)) 128 191 t107 _ A11.out).mono ?_); rintro e w' ⟨rfl, ⟨nd, rfl⟩⟩; refine ⟨_, rfl, ?_⟩))
       go_ret
       exact ⟨aP77, aP78⟩
      ·rw [if_neg c12] at H
       have c12b0 : decide ((wrap64 (bt a0 a1)) < 128) = false := dFa c12
       clear c12
       have HC13 := aMk H
       clear H
       have p8 : 0 ≤ (a1 : Int) := of_decide_eq_true (aP75)
       have q8 : a1 < (a0.size : Int) := of_decide_eq_true (aP75)
       have hx8 := bt_at a0 a1
       replace p8 := eq_true p8
       replace q8 := eq_true q8
       go_upto_region 9 with (first | ((with_reducible refine gate_callee (f := 87) rfl ?_); refine goesL_ (some 24) rfl rfl Try.func87 (by kernel_rfl) rfl #[.string a0, .int .i64 (wrap64 (a1 + 1)), .int .i64 128, .int .i64 191] rfl (aP76) ?_; (with_reducible refine (quipuref11_within.calls a0 (wrap64 (a1 + 1)) 128 191 t105 _ A9.out).mono ?_); rintro e w' ⟨rfl, ⟨nd, rfl⟩⟩; refine ⟨_, rfl, ?_⟩) | ((with_reducible refine gate_callee (f := 87) rfl ?_); refine goesL_ (some 28) rfl rfl Try.func87 (by kernel_rfl) rfl #[.string a0, .int .i64 (wrap64 (a1 + 2)), .int .i64 128, .int .i64 191] rfl (aP76) ?_; (with_reducible refine (quipuref11_within.calls a0 (wrap64 (a1 + 2)) 128 191 t106 _ A10.out).mono ?_); rintro e w' ⟨rfl, ⟨nd, rfl⟩⟩; refine ⟨_, rfl, ?_⟩) | ((with_reducible refine gate_callee (f := 87) rfl ?_); refine goesL_ (some 32) rfl rfl Try.func87 (by kernel_rfl) rfl #[.string a0, .int .i64 (wrap64 (a1 + 3)), .int .i64 128, .int .i64 191] rfl (aP76) ?_; (with_reducible refine (quipuref11_within.calls a0 (wrap64 (a1 + 3)) 128 191 t107 _ A11.out).mono ?_); rintro e w' ⟨rfl, ⟨nd, rfl⟩⟩; refine ⟨_, rfl, ?_⟩))
       (try simp only [Act.put, List.setIfInBounds_toArray, List.set_cons_zero, List.set_cons_succ])
       go_cut [36] (fun v36 wc => ∃ (kq : Nat) (x36_12 : Bool), v36 = .bool x36_12 ∧ Aside0 (quipuref11_Rune.j1 kq a0 a1 (wrap64 (bt a0 a1)) t105 t106 t107 x36_12 = some r) ∧ Aside0 (kq ≤ kj2) ∧ Drawn0 w wc)
       case first =>
        have H := HC13.out
        clear HC13
        by_cases c14 : (wrap64 (bt a0 a1)) ≥ 194
        ·rw [if_pos c14] at H
         have c14b0 : decide (194 ≤ (wrap64 (bt a0 a1))) = true := dTr c14
         clear c14
         (first | rw [c14b0] | (simp only [i64_w, i32_w]; rw [c14b0]) | skip)
         by_cases c15 : (wrap64 (bt a0 a1)) ≤ 223
         ·rw [if_pos c15] at H
          have c15b0 : decide ((wrap64 (bt a0 a1)) ≤ 223) = true := dTr c15
          clear c15
          have H' := aMk H
          clear H
          go_wp2
          go_meet
          case rel => exact ⟨_, (t105), (aP77), H', ⟨by have := HJ2.out; first | omega | exact Nat.le_refl _⟩, aP78⟩
         ·rw [if_neg c15] at H
          have c15b0 : decide ((wrap64 (bt a0 a1)) ≤ 223) = false := dFa c15
          clear c15
          exact aP21
        ·rw [if_neg c14] at H
         have c14b0 : decide (194 ≤ (wrap64 (bt a0 a1))) = false := dFa c14
         clear c14
         (first | rw [c14b0] | (simp only [i64_w, i32_w]; rw [c14b0]) | skip)
         exact aP21
       case rest =>
        clear HC13
        try clear c1
        try clear c2
        try clear p2
        try clear c4
        try clear c4b0
        try clear c5
        try clear c6
        try clear c6b0
        try clear p6
        try clear c7
        try clear c7b0
        try clear c8
        try clear p8
        try clear q8
        try clear hx8
        try clear c12
        try clear c12b0
        try clear c14
        try clear c14b0
        try clear c15
        try clear c15b0
        try clear p2
        try clear p8
        try clear q8
        obtain ⟨kq, x36_12, rfl, HA, HJ12, ⟨mc12, rfl⟩⟩ := hcut
        cases kq with
        | zero => exact absurd HA.out (by simp [quipuref11_Rune.j1])
        | succ kj12 =>
         have H := HA.out
         clear HA
         simp only [quipuref11_Rune.j1] at H
         by_cases c16 : x36_12 = true
         ·subst c16
          have H1 : (some 2) = some r := aP79
          exact aP20
         ·replace c16 := Bool.eq_false_iff.mpr c16
          subst c16
          have H1 : (if (wrap64 (bt a0 a1)) = 224 then ((quipuref11_within.f a0 (wrap64 (a1 + 1)) 160 191).bind fun t108 => (if t108 = true then (quipuref11_Rune.j2 kj12 a0 a1 (wrap64 (bt a0 a1)) t105 t106 t107 t106) else (quipuref11_Rune.j2 kj12 a0 a1 (wrap64 (bt a0 a1)) t105 t106 t107 false))) else (quipuref11_Rune.j2 kj12 a0 a1 (wrap64 (bt a0 a1)) t105 t106 t107 false)) = some r := aP74
          clear H
          have H := H1
          clear H1
          have HC17 := aMk H
          clear H
          go_upto_region 11 with (fail)
          go_cut [46] (fun v46 wc => ∃ (kq : Nat) (x46_16 : Bool), v46 = .bool x46_16 ∧ Aside0 (quipuref11_Rune.j2 kq a0 a1 (wrap64 (bt a0 a1)) t105 t106 t107 x46_16 = some r) ∧ Aside0 (kq ≤ kj12) ∧ Drawn0 w wc)
          case first =>
           have H := HC17.out
           clear HC17
           by_cases c18 : (wrap64 (bt a0 a1)) = 224
           ·rw [if_pos c18] at H
            have c18b0 : ((wrap64 (bt a0 a1)) == 224) = true := beT c18
            have c18b1 : ((wrap64 (bt a0 a1)) != 224) = false := bnF c18
            clear c18
            (first | rw [c18b0] | (simp only [i64_w, i32_w]; rw [c18b0]) | skip)
            replace H := Option.bind_eq_some_iff.mp H
            obtain ⟨t108, A190, H⟩ := H
            replace H : (if t108 = true then (quipuref11_Rune.j2 kj12 a0 a1 (wrap64 (bt a0 a1)) t105 t106 t107 t106) else (quipuref11_Rune.j2 kj12 a0 a1 (wrap64 (bt a0 a1)) t105 t106 t107 false)) = some r := H
            have A19 := aMk A190
            clear A190
            by_cases c20 : t108 = true
            ·subst c20
             have H1 : (quipuref11_Rune.j2 kj12 a0 a1 (wrap64 (bt a0 a1)) t105 t106 t107 t106) = some r := aP79
             clear H
             have H := H1
             clear H1
             have H' := aMk H
             clear H
             go_wp2_with (first | (go_at_call 87; (with_reducible refine (quipuref11_within.calls a0 (wrap64 (a1 + 1)) 160 191 true _ A19.out).mono ?_); rintro e w' ⟨rfl, ⟨nd, rfl⟩⟩))
             go_meet
             case rel => exact ⟨_, (t106), (aP77), H', ⟨by have := HJ2.out; have := HJ12.out; first | omega | exact Nat.le_refl _⟩, aP78⟩
            ·replace c20 := Bool.eq_false_iff.mpr c20
             subst c20
             have H1 : (quipuref11_Rune.j2 kj12 a0 a1 (wrap64 (bt a0 a1)) t105 t106 t107 false) = some r := aP74
             clear H
             have H := H1
             clear H1
             have H' := aMk H
             clear H
             go_wp2_with (first | (go_at_call 87; (with_reducible refine (quipuref11_within.calls a0 (wrap64 (a1 + 1)) 160 191 false _ A19.out).mono ?_); rintro e w' ⟨rfl, ⟨nd, rfl⟩⟩))
             exact aP19
           ·rw [if_neg c18] at H
            have c18b0 : ((wrap64 (bt a0 a1)) == 224) = false := beF c18
            have c18b1 : ((wrap64 (bt a0 a1)) != 224) = true := bnT c18
            (first | rw [c18b0] | (simp only [i64_w, i32_w]; rw [c18b0]) | skip)
            have H' := aMk H
            clear H
            go_wp2
            exact aP19
          case rest =>
           clear HC17
           try clear c1
           try clear c2
           try clear p2
           try clear c4
           try clear c4b0
           try clear c5
           try clear c6
           try clear c6b0
           try clear p6
           try clear c7
           try clear c7b0
           try clear c8
           try clear p8
           try clear q8
           try clear hx8
           try clear c12
           try clear c12b0
           try clear c14
           try clear c14b0
           try clear c15
           try clear c15b0
           try clear c16
           try clear c18
           try clear c18b0
           try clear c18b1
           try clear c20
           try clear p2
           try clear p6
           try clear p8
           try clear q8
           obtain ⟨kq, x46_16, rfl, HA, HJ16, ⟨mc16, rfl⟩⟩ := hcut
           cases kq with
           | zero => exact absurd HA.out (by simp [quipuref11_Rune.j2])
           | succ kj16 =>
            have H := HA.out
            clear HA
            simp only [quipuref11_Rune.j2] at H
            by_cases c21 : x46_16 = true
            ·subst c21
             exact aP13
            ·replace c21 := Bool.eq_false_iff.mpr c21
             subst c21
             have H1 : (if (wrap64 (bt a0 a1)) ≥ 225 then (if (wrap64 (bt a0 a1)) ≤ 236 then (if t105 = true then (quipuref11_Rune.j3 kj16 a0 a1 (wrap64 (bt a0 a1)) t105 t106 t107 t106) else (quipuref11_Rune.j3 kj16 a0 a1 (wrap64 (bt a0 a1)) t105 t106 t107 false)) else (quipuref11_Rune.j3 kj16 a0 a1 (wrap64 (bt a0 a1)) t105 t106 t107 false)) else (quipuref11_Rune.j3 kj16 a0 a1 (wrap64 (bt a0 a1)) t105 t106 t107 false)) = some r := aP74
             clear H
             have H := H1
             clear H1
             have HC22 := aMk H
             clear H
             go_upto_region 13 with (fail)
             go_cut [58] (fun v58 wc => ∃ (kq : Nat) (x58_21 : Bool), v58 = .bool x58_21 ∧ Aside0 (quipuref11_Rune.j3 kq a0 a1 (wrap64 (bt a0 a1)) t105 t106 t107 x58_21 = some r) ∧ Aside0 (kq ≤ kj16) ∧ Drawn0 w wc)
             case first =>
              have H := HC22.out
              clear HC22
              by_cases c23 : (wrap64 (bt a0 a1)) ≥ 225
              ·rw [if_pos c23] at H
               have c23b0 : decide (225 ≤ (wrap64 (bt a0 a1))) = true := dTr c23
               clear c23
               (first | rw [c23b0] | (simp only [i64_w, i32_w]; rw [c23b0]) | skip)
               by_cases c24 : (wrap64 (bt a0 a1)) ≤ 236
               ·rw [if_pos c24] at H
                have c24b0 : decide ((wrap64 (bt a0 a1)) ≤ 236) = true := dTr c24
                clear c24
                by_cases c25 : t105 = true
                ·subst c25
                 have H1 : (quipuref11_Rune.j3 kj16 a0 a1 (wrap64 (bt a0 a1)) true t106 t107 t106) = some r := aP79
                 clear H
                 have H := H1
                 clear H1
                 have H' := aMk H
                 clear H
                 go_wp2
                 go_meet
                 case rel => exact ⟨_, (t106), (aP77), H', ⟨by have := HJ2.out; have := HJ12.out; have := HJ16.out; first | omega | exact Nat.le_refl _⟩, aP78⟩
                ·replace c25 := Bool.eq_false_iff.mpr c25
                 subst c25
                 have H1 : (quipuref11_Rune.j3 kj16 a0 a1 (wrap64 (bt a0 a1)) false t106 t107 false) = some r := aP74
                 clear H
                 have H := H1
                 clear H1
                 exact aP18
               ·rw [if_neg c24] at H
                have c24b0 : decide ((wrap64 (bt a0 a1)) ≤ 236) = false := dFa c24
                clear c24
                exact aP18
              ·rw [if_neg c23] at H
               have c23b0 : decide (225 ≤ (wrap64 (bt a0 a1))) = false := dFa c23
               clear c23
               (first | rw [c23b0] | (simp only [i64_w, i32_w]; rw [c23b0]) | skip)
               exact aP18
             case rest =>
              clear HC22
              try clear c1
              try clear c2
              try clear p2
              try clear c4
              try clear c4b0
              try clear c5
              try clear c6
              try clear c6b0
              try clear p6
              try clear c7
              try clear c7b0
              try clear c8
              try clear p8
              try clear q8
              try clear hx8
              try clear c12
              try clear c12b0
              try clear c14
              try clear c14b0
              try clear c15
              try clear c15b0
              try clear c16
              try clear c18
              try clear c18b0
              try clear c18b1
              try clear c20
              try clear c21
              try clear c23
              try clear c23b0
              try clear c24
              try clear c24b0
              try clear c25
              try clear p2
              try clear p6
              try clear p8
              try clear q8
              obtain ⟨kq, x58_21, rfl, HA, HJ21, ⟨mc21, rfl⟩⟩ := hcut
              cases kq with
              | zero => exact absurd HA.out (by simp [quipuref11_Rune.j3])
              | succ kj21 =>
               have H := HA.out
               clear HA
               simp only [quipuref11_Rune.j3] at H
               have HC26 := aMk H
               clear H
               go_upto_if 58 with (fail)
               go_cut [58] (fun v58 wc => ∃ (kq : Nat) (x58_25 : Bool), v58 = .bool x58_25 ∧ Aside0 (quipuref11_Rune.j4 kq a0 a1 (wrap64 (bt a0 a1)) t105 t106 t107 x58_25 = some r) ∧ Aside0 (kq ≤ kj21) ∧ Drawn0 w wc)
               case first =>
                have H := HC26.out
                clear HC26
                by_cases c27 : x58_21 = true
                ·subst c27
                 have H1 : (quipuref11_Rune.j4 kj21 a0 a1 (wrap64 (bt a0 a1)) t105 t106 t107 true) = some r := aP79
                 clear H
                 have H := H1
                 clear H1
                 have H' := aMk H
                 clear H
                 go_wp2
                 go_meet
                 case rel => exact ⟨_, (true), (aP77), H', ⟨by have := HJ2.out; have := HJ12.out; have := HJ16.out; have := HJ21.out; first | omega | exact Nat.le_refl _⟩, aP78⟩
                ·replace c27 := Bool.eq_false_iff.mpr c27
                 subst c27
                 have H1 : (if (wrap64 (bt a0 a1)) = 238 then (if t105 = true then (quipuref11_Rune.j4 kj21 a0 a1 (wrap64 (bt a0 a1)) t105 t106 t107 t106) else (quipuref11_Rune.j4 kj21 a0 a1 (wrap64 (bt a0 a1)) t105 t106 t107 false)) else (if (wrap64 (bt a0 a1)) = 239 then (if t105 = true then (quipuref11_Rune.j4 kj21 a0 a1 (wrap64 (bt a0 a1)) t105 t106 t107 t106) else (quipuref11_Rune.j4 kj21 a0 a1 (wrap64 (bt a0 a1)) t105 t106 t107 false)) else (quipuref11_Rune.j4 kj21 a0 a1 (wrap64 (bt a0 a1)) t105 t106 t107 false))) = some r := aP74
                 clear H
                 have H := H1
                 clear H1
                 by_cases c28 : (wrap64 (bt a0 a1)) = 238
                 ·rw [if_pos c28] at H
                  have c28b0 : ((wrap64 (bt a0 a1)) == 238) = true := beT c28
                  have c28b1 : ((wrap64 (bt a0 a1)) != 238) = false := bnF c28
                  clear c28
                  (first | rw [c28b0] | (simp only [i64_w, i32_w]; rw [c28b0]) | skip)
                  by_cases c29 : t105 = true
                  ·subst c29
                   exact aP17
                  ·replace c29 := Bool.eq_false_iff.mpr c29
                   subst c29
                   exact aP16
                 ·rw [if_neg c28] at H
                  have c28b0 : ((wrap64 (bt a0 a1)) == 238) = false := beF c28
                  have c28b1 : ((wrap64 (bt a0 a1)) != 238) = true := bnT c28
                  (first | rw [c28b0] | (simp only [i64_w, i32_w]; rw [c28b0]) | skip)
                  by_cases c30 : (wrap64 (bt a0 a1)) = 239
                  ·rw [if_pos c30] at H
                   have c30b0 : ((wrap64 (bt a0 a1)) == 239) = true := beT c30
                   have c30b1 : ((wrap64 (bt a0 a1)) != 239) = false := bnF c30
                   clear c30
                   by_cases c31 : t105 = true
                   ·subst c31
                    exact aP17
                   ·replace c31 := Bool.eq_false_iff.mpr c31
                    subst c31
                    exact aP16
                  ·rw [if_neg c30] at H
                   have c30b0 : ((wrap64 (bt a0 a1)) == 239) = false := beF c30
                   have c30b1 : ((wrap64 (bt a0 a1)) != 239) = true := bnT c30
                   exact aP15
               case rest =>
                clear HC26
                try clear c1
                try clear c2
                try clear p2
                try clear c3
                try clear c4
                try clear c4b0
                try clear c5
                try clear c6
                try clear c6b0
                try clear p6
                try clear c7
                try clear c7b0
                try clear c8
                try clear p8
                try clear q8
                try clear hx8
                try clear c12
                try clear c12b0
                try clear c14
                try clear c14b0
                try clear c15
                try clear c15b0
                try clear c16
                try clear c18
                try clear c18b0
                try clear c18b1
                try clear c20
                try clear c21
                try clear c23
                try clear c23b0
                try clear c24
                try clear c24b0
                try clear c25
                try clear c27
                try clear c28
                try clear c28b0
                try clear c28b1
                try clear c29
                try clear c30
                try clear c30b0
                try clear c30b1
                try clear c31
                try clear p2
                try clear p6
                try clear p8
                try clear q8
                obtain ⟨kq, x58_25, rfl, HA, HJ25, ⟨mc25, rfl⟩⟩ := hcut
                cases kq with
                | zero => exact absurd HA.out (by simp [quipuref11_Rune.j4])
                | succ kj25 =>
                 have H := HA.out
                 clear HA
                 simp only [quipuref11_Rune.j4] at H
                 by_cases c32 : x58_25 = true
                 ·subst c32
                  exact aP13
                 ·replace c32 := Bool.eq_false_iff.mpr c32
                  subst c32
                  have H1 : (if (wrap64 (bt a0 a1)) = 237 then ((quipuref11_within.f a0 (wrap64 (a1 + 1)) 128 159).bind fun t109 => (if t109 = true then (quipuref11_Rune.j5 kj25 a0 a1 (wrap64 (bt a0 a1)) t105 t106 t107 t106) else (quipuref11_Rune.j5 kj25 a0 a1 (wrap64 (bt a0 a1)) t105 t106 t107 false))) else (quipuref11_Rune.j5 kj25 a0 a1 (wrap64 (bt a0 a1)) t105 t106 t107 false)) = some r := aP74
                  clear H
                  have H := H1
                  clear H1
                  have HC33 := aMk H
                  clear H
                  go_upto_region 16 with (fail)
                  go_cut [83] (fun v83 wc => ∃ (kq : Nat) (x83_32 : Bool), v83 = .bool x83_32 ∧ Aside0 (quipuref11_Rune.j5 kq a0 a1 (wrap64 (bt a0 a1)) t105 t106 t107 x83_32 = some r) ∧ Aside0 (kq ≤ kj25) ∧ Drawn0 w wc)
                  case first =>
                   have H := HC33.out
                   clear HC33
                   by_cases c34 : (wrap64 (bt a0 a1)) = 237
                   ·rw [if_pos c34] at H
                    have c34b0 : ((wrap64 (bt a0 a1)) == 237) = true := beT c34
                    have c34b1 : ((wrap64 (bt a0 a1)) != 237) = false := bnF c34
                    clear c34
                    (first | rw [c34b0] | (simp only [i64_w, i32_w]; rw [c34b0]) | skip)
                    replace H := Option.bind_eq_some_iff.mp H
                    obtain ⟨t109, A350, H⟩ := H
                    replace H : (if t109 = true then (quipuref11_Rune.j5 kj25 a0 a1 (wrap64 (bt a0 a1)) t105 t106 t107 t106) else (quipuref11_Rune.j5 kj25 a0 a1 (wrap64 (bt a0 a1)) t105 t106 t107 false)) = some r := H
                    have A35 := aMk A350
                    clear A350
                    by_cases c36 : t109 = true
                    ·subst c36
                     have H1 : (quipuref11_Rune.j5 kj25 a0 a1 (wrap64 (bt a0 a1)) t105 t106 t107 t106) = some r := aP79
                     clear H
                     have H := H1
                     clear H1
                     have H' := aMk H
                     clear H
                     go_wp2_with (first | (go_at_call 87; (with_reducible refine (quipuref11_within.calls a0 (wrap64 (a1 + 1)) 128 159 true _ A35.out).mono ?_); rintro e w' ⟨rfl, ⟨nd, rfl⟩⟩))
                     go_meet
                     case rel => exact ⟨_, (t106), (aP77), H', ⟨by have := HJ2.out; have := HJ12.out; have := HJ16.out; have := HJ21.out; have := HJ25.out; first | omega | exact Nat.le_refl _⟩, aP78⟩
                    ·replace c36 := Bool.eq_false_iff.mpr c36
                     subst c36
                     have H1 : (quipuref11_Rune.j5 kj25 a0 a1 (wrap64 (bt a0 a1)) t105 t106 t107 false) = some r := aP74
                     clear H
                     have H := H1
                     clear H1
                     have H' := aMk H
                     clear H
                     go_wp2_with (first | (go_at_call 87; (with_reducible refine (quipuref11_within.calls a0 (wrap64 (a1 + 1)) 128 159 false _ A35.out).mono ?_); rintro e w' ⟨rfl, ⟨nd, rfl⟩⟩))
                     exact aP14
                   ·rw [if_neg c34] at H
                    have c34b0 : ((wrap64 (bt a0 a1)) == 237) = false := beF c34
                    have c34b1 : ((wrap64 (bt a0 a1)) != 237) = true := bnT c34
                    (first | rw [c34b0] | (simp only [i64_w, i32_w]; rw [c34b0]) | skip)
                    have H' := aMk H
                    clear H
                    go_wp2
                    exact aP14
                  case rest =>
                   clear HC33
                   try clear c1
                   try clear c2
                   try clear p2
                   try clear c3
                   try clear c4
                   try clear c4b0
                   try clear c5
                   try clear c6
                   try clear c6b0
                   try clear p6
                   try clear c7
                   try clear c7b0
                   try clear c8
                   try clear p8
                   try clear q8
                   try clear hx8
                   try clear c12
                   try clear c12b0
                   try clear c14
                   try clear c14b0
                   try clear c15
                   try clear c15b0
                   try clear c16
                   try clear c18
                   try clear c18b0
                   try clear c18b1
                   try clear c20
                   try clear c21
                   try clear c23
                   try clear c23b0
                   try clear c24
                   try clear c24b0
                   try clear c25
                   try clear c27
                   try clear c28
                   try clear c28b0
                   try clear c28b1
                   try clear c29
                   try clear c30
                   try clear c30b0
                   try clear c30b1
                   try clear c31
                   try clear c32
                   try clear c34
                   try clear c34b0
                   try clear c34b1
                   try clear c36
                   try clear p2
                   try clear p6
                   try clear p8
                   try clear q8
                   obtain ⟨kq, x83_32, rfl, HA, HJ32, ⟨mc32, rfl⟩⟩ := hcut
                   cases kq with
                   | zero => exact absurd HA.out (by simp [quipuref11_Rune.j5])
                   | succ kj32 =>
                    have H := HA.out
                    clear HA
                    simp only [quipuref11_Rune.j5] at H
                    by_cases c37 : x83_32 = true
                    ·subst c37
                     exact aP13
                    ·replace c37 := Bool.eq_false_iff.mpr c37
                     subst c37
                     have H1 : (if (wrap64 (bt a0 a1)) = 240 then ((quipuref11_within.f a0 (wrap64 (a1 + 1)) 144 191).bind fun t110 => (if t110 = true then (if t106 = true then (quipuref11_Rune.j6 kj32 a0 a1 (wrap64 (bt a0 a1)) t105 t106 t107 t107) else (quipuref11_Rune.j6 kj32 a0 a1 (wrap64 (bt a0 a1)) t105 t106 t107 false)) else (quipuref11_Rune.j6 kj32 a0 a1 (wrap64 (bt a0 a1)) t105 t106 t107 false))) else (quipuref11_Rune.j6 kj32 a0 a1 (wrap64 (bt a0 a1)) t105 t106 t107 false)) = some r := aP74
                     clear H
                     have H := H1
                     clear H1
                     have HC38 := aMk H
                     clear H
                     go_upto_region 18 with (fail)
                     go_cut [95] (fun v95 wc => ∃ (kq : Nat) (x95_37 : Bool), v95 = .bool x95_37 ∧ Aside0 (quipuref11_Rune.j6 kq a0 a1 (wrap64 (bt a0 a1)) t105 t106 t107 x95_37 = some r) ∧ Aside0 (kq ≤ kj32) ∧ Drawn0 w wc)
                     case first =>
                      have H := HC38.out
                      clear HC38
                      by_cases c39 : (wrap64 (bt a0 a1)) = 240
                      ·rw [if_pos c39] at H
                       have c39b0 : ((wrap64 (bt a0 a1)) == 240) = true := beT c39
                       have c39b1 : ((wrap64 (bt a0 a1)) != 240) = false := bnF c39
                       clear c39
                       (first | rw [c39b0] | (simp only [i64_w, i32_w]; rw [c39b0]) | skip)
                       replace H := Option.bind_eq_some_iff.mp H
                       obtain ⟨t110, A400, H⟩ := H
                       replace H : (if t110 = true then (if t106 = true then (quipuref11_Rune.j6 kj32 a0 a1 (wrap64 (bt a0 a1)) t105 t106 t107 t107) else (quipuref11_Rune.j6 kj32 a0 a1 (wrap64 (bt a0 a1)) t105 t106 t107 false)) else (quipuref11_Rune.j6 kj32 a0 a1 (wrap64 (bt a0 a1)) t105 t106 t107 false)) = some r := H
                       have A40 := aMk A400
                       clear A400
                       by_cases c41 : t110 = true
                       ·subst c41
                        have H1 : (if t106 = true then (quipuref11_Rune.j6 kj32 a0 a1 (wrap64 (bt a0 a1)) t105 t106 t107 t107) else (quipuref11_Rune.j6 kj32 a0 a1 (wrap64 (bt a0 a1)) t105 t106 t107 false)) = some r := aP79
                        clear H
                        have H := H1
                        clear H1
                        by_cases c42 : t106 = true
                        ·subst c42
                         have H1 : (quipuref11_Rune.j6 kj32 a0 a1 (wrap64 (bt a0 a1)) t105 true t107 t107) = some r := aP79
                         clear H
                         have H := H1
                         clear H1
                         have H' := aMk H
                         clear H
                         go_wp2_with (first | (go_at_call 87; (with_reducible refine (quipuref11_within.calls a0 (wrap64 (a1 + 1)) 144 191 true _ A40.out).mono ?_); rintro e w' ⟨rfl, ⟨nd, rfl⟩⟩))
                         go_meet
                         case rel => exact ⟨_, (t107), (aP77), H', ⟨by have := HJ2.out; have := HJ12.out; have := HJ16.out; have := HJ21.out; have := HJ25.out; have := HJ32.out; first | omega | exact Nat.le_refl _⟩, aP78⟩
                        ·replace c42 := Bool.eq_false_iff.mpr c42
                         subst c42
                         have H1 : (quipuref11_Rune.j6 kj32 a0 a1 (wrap64 (bt a0 a1)) t105 false t107 false) = some r := aP74
                         clear H
                         have H := H1
                         clear H1
                         have H' := aMk H
                         clear H
                         go_wp2_with (first | (go_at_call 87; (with_reducible refine (quipuref11_within.calls a0 (wrap64 (a1 + 1)) 144 191 true _ A40.out).mono ?_); rintro e w' ⟨rfl, ⟨nd, rfl⟩⟩))
                         exact aP12
                       ·replace c41 := Bool.eq_false_iff.mpr c41
                        subst c41
                        have H1 : (quipuref11_Rune.j6 kj32 a0 a1 (wrap64 (bt a0 a1)) t105 t106 t107 false) = some r := aP74
                        clear H
                        have H := H1
                        clear H1
                        have H' := aMk H
                        clear H
                        go_wp2_with (first | (go_at_call 87; (with_reducible refine (quipuref11_within.calls a0 (wrap64 (a1 + 1)) 144 191 false _ A40.out).mono ?_); rintro e w' ⟨rfl, ⟨nd, rfl⟩⟩))
                        exact aP12
                      ·rw [if_neg c39] at H
                       have c39b0 : ((wrap64 (bt a0 a1)) == 240) = false := beF c39
                       have c39b1 : ((wrap64 (bt a0 a1)) != 240) = true := bnT c39
                       (first | rw [c39b0] | (simp only [i64_w, i32_w]; rw [c39b0]) | skip)
                       have H' := aMk H
                       clear H
                       go_wp2
                       exact aP12
                     case rest =>
                      clear HC38
                      try clear c1
                      try clear c2
                      try clear p2
                      try clear c3
                      try clear c4
                      try clear c4b0
                      try clear c5
                      try clear c6
                      try clear c6b0
                      try clear p6
                      try clear c7
                      try clear c7b0
                      try clear c8
                      try clear p8
                      try clear q8
                      try clear hx8
                      try clear c12
                      try clear c12b0
                      try clear c14
                      try clear c14b0
                      try clear c15
                      try clear c15b0
                      try clear c16
                      try clear c18
                      try clear c18b0
                      try clear c18b1
                      try clear c20
                      try clear c21
                      try clear c23
                      try clear c23b0
                      try clear c24
                      try clear c24b0
                      try clear c25
                      try clear c27
                      try clear c28
                      try clear c28b0
                      try clear c28b1
                      try clear c29
                      try clear c30
                      try clear c30b0
                      try clear c30b1
                      try clear c31
                      try clear c32
                      try clear c34
                      try clear c34b0
                      try clear c34b1
                      try clear c36
                      try clear c37
                      try clear c39
                      try clear c39b0
                      try clear c39b1
                      try clear c41
                      try clear c42
                      try clear p2
                      try clear p6
                      try clear p8
                      try clear q8
                      obtain ⟨kq, x95_37, rfl, HA, HJ37, ⟨mc37, rfl⟩⟩ := hcut
                      cases kq with
                      | zero => exact absurd HA.out (by simp [quipuref11_Rune.j6])
                      | succ kj37 =>
                       have H := HA.out
                       clear HA
                       simp only [quipuref11_Rune.j6] at H
                       by_cases c43 : x95_37 = true
                       ·subst c43
                        exact aP9
                       ·replace c43 := Bool.eq_false_iff.mpr c43
                        subst c43
                        have H1 : (if (wrap64 (bt a0 a1)) ≥ 241 then (if (wrap64 (bt a0 a1)) ≤ 243 then (if t105 = true then (if t106 = true then (quipuref11_Rune.j7 kj37 a0 a1 (wrap64 (bt a0 a1)) t106 t107 t107) else (quipuref11_Rune.j7 kj37 a0 a1 (wrap64 (bt a0 a1)) t106 t107 false)) else (quipuref11_Rune.j7 kj37 a0 a1 (wrap64 (bt a0 a1)) t106 t107 false)) else (quipuref11_Rune.j7 kj37 a0 a1 (wrap64 (bt a0 a1)) t106 t107 false)) else (quipuref11_Rune.j7 kj37 a0 a1 (wrap64 (bt a0 a1)) t106 t107 false)) = some r := aP74
                        clear H
                        have H := H1
                        clear H1
                        have HC44 := aMk H
                        clear H
                        go_upto_region 20 with (fail)
                        go_cut [110] (fun v110 wc => ∃ (kq : Nat) (x110_43 : Bool), v110 = .bool x110_43 ∧ Aside0 (quipuref11_Rune.j7 kq a0 a1 (wrap64 (bt a0 a1)) t106 t107 x110_43 = some r) ∧ Aside0 (kq ≤ kj37) ∧ Drawn0 w wc)
                        case first =>
                         have H := HC44.out
                         clear HC44
                         by_cases c45 : (wrap64 (bt a0 a1)) ≥ 241
                         ·rw [if_pos c45] at H
                          have c45b0 : decide (241 ≤ (wrap64 (bt a0 a1))) = true := dTr c45
                          clear c45
                          (first | rw [c45b0] | (simp only [i64_w, i32_w]; rw [c45b0]) | skip)
                          by_cases c46 : (wrap64 (bt a0 a1)) ≤ 243
                          ·rw [if_pos c46] at H
                           have c46b0 : decide ((wrap64 (bt a0 a1)) ≤ 243) = true := dTr c46
                           clear c46
                           by_cases c47 : t105 = true
                           ·subst c47
                            have H1 : (if t106 = true then (quipuref11_Rune.j7 kj37 a0 a1 (wrap64 (bt a0 a1)) t106 t107 t107) else (quipuref11_Rune.j7 kj37 a0 a1 (wrap64 (bt a0 a1)) t106 t107 false)) = some r := aP79
                            clear H
                            have H := H1
                            clear H1
                            by_cases c48 : t106 = true
                            ·subst c48
                             have H1 : (quipuref11_Rune.j7 kj37 a0 a1 (wrap64 (bt a0 a1)) true t107 t107) = some r := aP79
                             clear H
                             have H := H1
                             clear H1
                             have H' := aMk H
                             clear H
                             go_wp2
                             go_meet
                             case rel => exact ⟨_, (t107), (aP77), H', ⟨by have := HJ2.out; have := HJ12.out; have := HJ16.out; have := HJ21.out; have := HJ25.out; have := HJ32.out; have := HJ37.out; first | omega | exact Nat.le_refl _⟩, aP78⟩
                            ·replace c48 := Bool.eq_false_iff.mpr c48
                             subst c48
                             have H1 : (quipuref11_Rune.j7 kj37 a0 a1 (wrap64 (bt a0 a1)) false t107 false) = some r := aP74
                             exact aP11
                           ·replace c47 := Bool.eq_false_iff.mpr c47
                            subst c47
                            have H1 : (quipuref11_Rune.j7 kj37 a0 a1 (wrap64 (bt a0 a1)) t106 t107 false) = some r := aP74
                            exact aP11
                          ·rw [if_neg c46] at H
                           have c46b0 : decide ((wrap64 (bt a0 a1)) ≤ 243) = false := dFa c46
                           clear c46
                           exact aP10
                         ·rw [if_neg c45] at H
                          have c45b0 : decide (241 ≤ (wrap64 (bt a0 a1))) = false := dFa c45
                          clear c45
                          (first | rw [c45b0] | (simp only [i64_w, i32_w]; rw [c45b0]) | skip)
                          exact aP10
                        case rest =>
                         clear HC44
                         try clear c1
                         try clear c2
                         try clear p2
                         try clear c3
                         try clear c4
                         try clear c4b0
                         try clear c5
                         try clear c6
                         try clear c6b0
                         try clear p6
                         try clear c7
                         try clear c7b0
                         try clear c8
                         try clear p8
                         try clear q8
                         try clear hx8
                         try clear c12
                         try clear c12b0
                         try clear c14
                         try clear c14b0
                         try clear c15
                         try clear c15b0
                         try clear c16
                         try clear c18
                         try clear c18b0
                         try clear c18b1
                         try clear c20
                         try clear c21
                         try clear c23
                         try clear c23b0
                         try clear c24
                         try clear c24b0
                         try clear c25
                         try clear c27
                         try clear c28
                         try clear c28b0
                         try clear c28b1
                         try clear c29
                         try clear c30
                         try clear c30b0
                         try clear c30b1
                         try clear c31
                         try clear c32
                         try clear c34
                         try clear c34b0
                         try clear c34b1
                         try clear c36
                         try clear c37
                         try clear c39
                         try clear c39b0
                         try clear c39b1
                         try clear c41
                         try clear c42
                         try clear c43
                         try clear c45
                         try clear c45b0
                         try clear c46
                         try clear c46b0
                         try clear c47
                         try clear c48
                         try clear p2
                         try clear p6
                         try clear p8
                         try clear q8
                         obtain ⟨kq, x110_43, rfl, HA, HJ43, ⟨mc43, rfl⟩⟩ := hcut
                         cases kq with
                         | zero => exact absurd HA.out (by simp [quipuref11_Rune.j7])
                         | succ kj43 =>
                          have H := HA.out
                          clear HA
                          simp only [quipuref11_Rune.j7] at H
                          by_cases c49 : x110_43 = true
                          ·subst c49
                           exact aP9
                          ·replace c49 := Bool.eq_false_iff.mpr c49
                           subst c49
                           have H1 : (if (wrap64 (bt a0 a1)) = 244 then ((quipuref11_within.f a0 (wrap64 (a1 + 1)) 128 143).bind fun t111 => (if t111 = true then (if t106 = true then (if t107 = true then (some 4) else (some 0)) else (some 0)) else (some 0))) else (some 0)) = some r := aP74
                           clear H
                           have H := H1
                           clear H1
                           by_cases c50 : (wrap64 (bt a0 a1)) = 244
                           ·rw [if_pos c50] at H
                            have c50b0 : ((wrap64 (bt a0 a1)) == 244) = true := beT c50
                            have c50b1 : ((wrap64 (bt a0 a1)) != 244) = false := bnF c50
                            clear c50
                            replace H := Option.bind_eq_some_iff.mp H
                            obtain ⟨t111, A510, H⟩ := H
                            replace H : (if t111 = true then (if t106 = true then (if t107 = true then (some 4) else (some 0)) else (some 0)) else (some 0)) = some r := H
                            have A51 := aMk A510
                            clear A510
                            by_cases c52 : t111 = true
                            ·subst c52
                             have H1 : (if t106 = true then (if t107 = true then (some 4) else (some 0)) else (some 0)) = some r := aP79
                             clear H
                             have H := H1
                             clear H1
                             by_cases c53 : t106 = true
                             ·subst c53
                              have H1 : (if t107 = true then (some 4) else (some 0)) = some r := aP79
                              clear H
                              have H := H1
                              clear H1
                              by_cases c54 : t107 = true
                              ·subst c54
                               have H1 : (some 4) = some r := aP79
                               exact aP8
                              ·replace c54 := Bool.eq_false_iff.mpr c54
                               subst c54
                               exact aP7
                             ·replace c53 := Bool.eq_false_iff.mpr c53
                              subst c53
                              exact aP7
                            ·replace c52 := Bool.eq_false_iff.mpr c52
                             subst c52
                             have H1 : (some 0) = some r := aP74
                             clear H
                             have H := H1
                             clear H1
                             obtain rfl := Option.some.inj H
                             go_wp2_with (first | (go_at_call 87; (with_reducible refine (quipuref11_within.calls a0 (wrap64 (a1 + 1)) 128 143 false _ A51.out).mono ?_); rintro e w' ⟨rfl, ⟨nd, rfl⟩⟩))
                             go_ret
                             exact ⟨aP77, aP78⟩
                           ·rw [if_neg c50] at H
                            have c50b0 : ((wrap64 (bt a0 a1)) == 244) = false := beF c50
                            have c50b1 : ((wrap64 (bt a0 a1)) != 244) = true := bnT c50
                            exact aP2
     ·rw [if_neg c7] at H
      exact absurd H (by simp)
    ·rw [if_neg c6] at H
     exact absurd H (by simp)
end Go.Proofs.Ytacnjemndfmbhaa.Q
end
