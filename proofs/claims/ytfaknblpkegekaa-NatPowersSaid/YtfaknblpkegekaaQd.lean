-- printed by a program of this session (wip/tools/print2.sh) after the kit's print
import Derived.Test.YtfaknblpkegekaaQx0
import Derived.Test.YtfaknblpkegekaaQx1
import Derived.Test.YtfaknblpkegekaaQx3
import Derived.Test.YtfaknblpkegekaaQx4
import Derived.Test.YtfaknblpkegekaaDw
namespace Go.Proofs.Ytfaknblpkegekaa.Q
open Go.RowKit Go.Proofs.YtfaknblpkegekaaW.PrintWords Go.Proofs.YtfaknblpkegekaaW.PrintLast Go.Proofs.YtfaknblpkegekaaW.PrintMore
attribute [local go_sem] max2_int min2_int max_two min_two max_three min_three max_four min_four   -- for this text's walks alone
set_option linter.unusedVariables false
set_option linter.unusedSimpArgs false

/-! ### nat_DivMod: function 25 (given) -/
def nat_DivMod.f (a0 a1 : List Int) : Option (List Int × List Int × Int) := if (wfs a0 && wfs a1) = true then some (if val a1 = 0 then ([], [], 11) else (limbs (val a0 / val a1), limbs (val a0 % val a1), 0)) else none
theorem nat_DivMod.calls (A0 : Option Addr) (c0 : Nat) (l0 : List Int) (A1 : Option Addr) (c1 : Nat) (l1 : List Int) (r1 : List Int) (r2 : List Int) (r3 : Int) (w : World) (hr0 : Kd.C (Kd.int .u64) w A0 l0.length l0) (hc0 : l0.length ≤ c0) (hr1 : Kd.C (Kd.int .u64) w A1 l1.length l1) (hc1 : l1.length ≤ c1) (h : nat_DivMod.f l0 l1 = some (r1, r2, r3)) :
    Calls Try.prog 25 #[.slice A0 l0.length c0, .slice A1 l1.length c1] w fun e w' => ∃ v0_ v1_ : Value, e = .returned (.tuple #[v0_, v1_, .int .i64 r3]) ∧ Kd.V (Kd.int .u64) 46 w' w.heap.size (fun k_ => (w.heap.size ≤ k_)) v0_ r1 ∧ Kd.V (Kd.int .u64) 46 w' w.heap.size (fun k_ => (w.heap.size ≤ k_)) v1_ r2 ∧ Below w.heap.size w w' := by
  unfold nat_DivMod.f at h
  by_cases hw : (wfs l0 && wfs l1) = true
  · rw [if_pos hw] at h
    rw [Bool.and_eq_true] at hw
    have h0 := wfs_out hw.1
    have h1 := wfs_out hw.2
    exact DivMod_all A0 c0 l0 A1 c1 l1 w hr0 hc0 hr1 hc1 h0.1 h1.1 h0.2 h1.2 r1 r2 r3 (Option.some.inj h)
  · rw [if_neg hw] at h; exact absurd h (by simp)

end Go.Proofs.Ytfaknblpkegekaa.Q
