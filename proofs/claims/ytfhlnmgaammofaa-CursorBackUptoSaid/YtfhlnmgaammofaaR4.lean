/- Plain law: a number's bytes as cursor lays them are as the document says: one, two and four of them. -/
import Derived.Test.YtfhlnmgaammofaaQx6
import Derived.Test.YtfhlnmgaammofaaR1
namespace Go.Proofs.Ytfhlnmgaammofaa.R1
open Go.RowKit Go.Proofs.Ytfhlnmgaammofaa.Q Go.Proofs.YtfhlnmgaammofaaW.PrintWords Go.Proofs.YtfhlnmgaammofaaW.PrintLast
set_option linter.unusedSimpArgs false
/-- A number's bytes, the highest first. -/
def putS (n : Int) : Nat → List Int
  | 0 => []
  | m + 1 => (n / 2 ^ (8 * m)) % 256 :: putS n m

theorem curPut1 (n : Int) : cursor_put.f 8 n 1 = some (strOfNums (putS n 1)) := by
  simp [cursor_put.f, cursor_put.l0, quipuref11_Put.f, quipuref11_Put.l0, wrap64, shr, putS, List.set, List.replicate, IntKind.bits]
theorem curPut2 (n : Int) : cursor_put.f 8 n 2 = some (strOfNums (putS n 2)) := by
  simp [cursor_put.f, cursor_put.l0, quipuref11_Put.f, quipuref11_Put.l0, wrap64, shr, putS, List.set, List.replicate, IntKind.bits]
theorem curPut4 (n : Int) : cursor_put.f 8 n 4 = some (strOfNums (putS n 4)) := by
  simp [cursor_put.f, cursor_put.l0, quipuref11_Put.f, quipuref11_Put.l0, wrap64, shr, putS, List.set, List.replicate, IntKind.bits]
theorem refPut1 (n : Int) : quipuref11_Put.f 8 n 1 = some (strOfNums (putS n 1)) := by
  simp [cursor_put.f, cursor_put.l0, quipuref11_Put.f, quipuref11_Put.l0, wrap64, shr, putS, List.set, List.replicate, IntKind.bits]
theorem refPut2 (n : Int) : quipuref11_Put.f 8 n 2 = some (strOfNums (putS n 2)) := by
  simp [cursor_put.f, cursor_put.l0, quipuref11_Put.f, quipuref11_Put.l0, wrap64, shr, putS, List.set, List.replicate, IntKind.bits]
theorem refPut4 (n : Int) : quipuref11_Put.f 8 n 4 = some (strOfNums (putS n 4)) := by
  simp [cursor_put.f, cursor_put.l0, quipuref11_Put.f, quipuref11_Put.l0, wrap64, shr, putS, List.set, List.replicate, IntKind.bits]
theorem curP1 (n : Int) (k : Nat) (hk : 8 ≤ k) : cursor_put.f k n 1 = some (strOfNums (putS n 1)) := more (fun k => cursor_put.mono n 1 k) hk (curPut1 n)
theorem curP2 (n : Int) (k : Nat) (hk : 8 ≤ k) : cursor_put.f k n 2 = some (strOfNums (putS n 2)) := more (fun k => cursor_put.mono n 2 k) hk (curPut2 n)
theorem curP4 (n : Int) (k : Nat) (hk : 8 ≤ k) : cursor_put.f k n 4 = some (strOfNums (putS n 4)) := more (fun k => cursor_put.mono n 4 k) hk (curPut4 n)
theorem refP1 (n : Int) (k : Nat) (hk : 8 ≤ k) : quipuref11_Put.f k n 1 = some (strOfNums (putS n 1)) := more (fun k => quipuref11_Put.mono n 1 k) hk (refPut1 n)
theorem refP2 (n : Int) (k : Nat) (hk : 8 ≤ k) : quipuref11_Put.f k n 2 = some (strOfNums (putS n 2)) := more (fun k => quipuref11_Put.mono n 2 k) hk (refPut2 n)
theorem refP4 (n : Int) (k : Nat) (hk : 8 ≤ k) : quipuref11_Put.f k n 4 = some (strOfNums (putS n 4)) := more (fun k => quipuref11_Put.mono n 4 k) hk (refPut4 n)
theorem putS_length (n : Int) : ∀ m, (putS n m).length = m
  | 0 => rfl
  | m + 1 => by simp [putS, putS_length n m]
/-- A text's form, or why it has none. -/
def putT (s : ByteArray) : ByteArray × Int :=
  if (s.size : Int) > 1024 then (⟨#[]⟩, 112) else if runesS s < 0 then (⟨#[]⟩, 111) else (strOfNums (putS s.size 2) ++ s, 0)
theorem curPutText (s : ByteArray) (hs : s.size ≤ 281474976710656) (k : Nat) : cursor_PutText.f (s.size + 1 + (k + 8) + 5) s = some (putT s) := by
  unfold cursor_PutText.f putT
  by_cases h : (s.size : Int) > 1024
  · rw [if_pos h, if_pos h]
  rw [if_neg h, if_neg h, curValid s hs, Option.bind_some]
  by_cases g : runesS s < 0
  · rw [if_pos g, if_neg (by simp; omega)]
  rw [if_neg g, if_pos (by simp; omega), cursor_Put16.f, curP2 _ _ (by omega), Option.bind_some, Option.bind_some, if_pos]
  rw [strOfNums_size, putS_length]; omega
theorem refPutText (s : ByteArray) (hs : s.size ≤ 281474976710656) (k : Nat) : quipuref11_PutText.f (s.size + 1 + k + 8) s = some (putT s) := by
  unfold quipuref11_PutText.f putT
  by_cases h : (s.size : Int) > 1024
  · rw [if_pos h, if_pos h]
  rw [if_neg h, if_neg h, refRunes s hs, Option.bind_some]
  by_cases g : runesS s < 0
  · rw [if_pos g, if_pos g]
  rw [if_neg g, if_neg g, refP2 _ _ (by omega), Option.bind_some, if_pos]
  rw [strOfNums_size, putS_length]; omega
end Go.Proofs.Ytfhlnmgaammofaa.R1
