/- Words for math/bits.Add64 and Sub64, which the model runs in place, and the law of such a call. -/
import Derived.Test.YtfaknblpkegekaaProg
import Derived.Laws.Externs
import Derived.KernelRfl
import Derived.WalkKit
namespace Go.Proofs.Ytfaknblpkegekaa.Q
/-- The sum's low limb, and what is carried over. -/
def add64s (x y c : Int) : Int := (((x.toNat + y.toNat + c.toNat) % 18446744073709551616 : Nat) : Int)
def add64c (x y c : Int) : Int := (((x.toNat + y.toNat + c.toNat) / 18446744073709551616 : Nat) : Int)
/-- The difference's low limb, and what is borrowed. -/
def sub64s (x y b : Int) : Int := (((x.toNat + 18446744073709551616 - y.toNat - b.toNat) % 18446744073709551616 : Nat) : Int)
def sub64c (x y b : Int) : Int := ((if x.toNat < y.toNat + b.toNat then 1 else 0 : Nat) : Int)

def sub64Entry : Array Value → Sem Value := fun args => do
  let (x, y, b) ← Extern.MathBitsCarry.three "Sub64" args
  pure (Extern.MathBitsCarry.pair ((x + Extern.MathBitsCarry.m64 - y - b) % Extern.MathBitsCarry.m64) (if x < y + b then 1 else 0))

theorem run_add64_at (x y c : Int) (hc : c ≤ 1) (w : World) :
    (callFunc 42 #[.int .u64 x, .int .u64 y, .int .u64 c]).run Try.prog w = .ok (.value (.tuple #[.int .u64 (add64s x y c), .int .u64 (add64c x y c)])) w := by
  have key : (add64Entry #[.int .u64 x, .int .u64 y, .int .u64 c]).run Try.prog w = .ok (.tuple #[.int .u64 (add64s x y c), .int .u64 (add64c x y c)]) w := by
    have : c = 1 ∨ c ≤ 0 := by omega
    rcases this with rfl | h
    · rfl
    · have hz : c.toNat = 0 := by omega
      obtain ⟨n, hn⟩ : ∃ n : Nat, c = -(n : Int) := ⟨(-c).toNat, by omega⟩
      subst hn
      cases n with
      | zero => rfl
      | succ n => rfl
  rw [run_callFunc_extern Try.func42 (by kernel_rfl) (by kernel_rfl) (by kernel_rfl) (e := add64Entry) (by kernel_rfl), key]
  rfl

theorem run_sub64_at (x y c : Int) (hc : c ≤ 1) (w : World) :
    (callFunc 41 #[.int .u64 x, .int .u64 y, .int .u64 c]).run Try.prog w = .ok (.value (.tuple #[.int .u64 (sub64s x y c), .int .u64 (sub64c x y c)])) w := by
  have key : (sub64Entry #[.int .u64 x, .int .u64 y, .int .u64 c]).run Try.prog w = .ok (.tuple #[.int .u64 (sub64s x y c), .int .u64 (sub64c x y c)]) w := by
    have : c = 1 ∨ c ≤ 0 := by omega
    rcases this with rfl | h
    · rfl
    · have hz : c.toNat = 0 := by omega
      obtain ⟨n, hn⟩ : ∃ n : Nat, c = -(n : Int) := ⟨(-c).toNat, by omega⟩
      subst hn
      cases n with
      | zero => rfl
      | succ n => rfl
  rw [run_callFunc_extern Try.func41 (by kernel_rfl) (by kernel_rfl) (by kernel_rfl) (e := sub64Entry) (by kernel_rfl), key]
  rfl

/-- The number that limbs are, the lowest first. -/
def val : List Int → Nat
  | [] => 0
  | x :: l => x.toNat + 18446744073709551616 * val l
/-- A number's limbs, the lowest first, without noughts on top. -/
def limbsF : Nat → Nat → List Int
  | 0, _ => []
  | f + 1, n => if n = 0 then [] else ((n % 18446744073709551616 : Nat) : Int) :: limbsF f (n / 18446744073709551616)
def limbs (n : Nat) : List Int := limbsF n n
/-- Are these limbs, and no more than 2^40 of them? -/
def wfl (l : List Int) : Bool := l.all (fun x => decide (0 ≤ x) && decide (x < 18446744073709551616)) && decide (l.length ≤ 17592186044400)
end Go.Proofs.Ytfaknblpkegekaa.Q
