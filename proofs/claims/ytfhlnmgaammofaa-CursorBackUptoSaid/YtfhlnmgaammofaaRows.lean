/-
  No cell of these rows narrows 'for every input' (looked for: loops, veiled, ifaces, maps, wideKeys, modest, calm, conditions, laid).
  DERIVED. THE GIVEN ROWS OF THIS SEAT. 6 by the template 'for every input the law returns true; each argument reads behind the call as it read before'; 0 by the template 'total and deterministic' (their statements: YtfhlnmgaammofaaTotals.lean).
  GIVEN WITH THE SEED: the statements are not yours to turn. If you find one false, say at which input.
  Laid BY PROGRAM, IN A SANDBOX (cutbox-rows.mjs): the forced cells as the released guide's own fill.sh prints them over the translation 6cc316e3e29d1b5e… (all of the seat's roots in one cut). By AI agents, Wed Nov 11 2026. No macro, syntax, notation, axiom, sorry.
-/
import Derived.Test.YtfhlnmgaammofaaChecked
import GoSem.Claim
import GoSem.ClaimJoined
import GoSem.ClaimMapViews
import Derived.JoinedTies
import Derived.KernelRfl
namespace Go.Proofs.Ytfhlnmgaammofaa
/- THE CELL 'sum', in the pinned program and in every row, IS THE sha256 OF THE DUMP (.gsa) THAT YtfhlnmgaammofaaProg.lean LOADS. Nothing in Lean hashes anything: it is a label: what it is worth is what the hold of that sum in a sandbox is worth. -/
noncomputable def Try.pinned : Pinned := { name := "ytfhlnmgaammofaa", sum := "6cc316e3e29d1b5e8acf39634df081477d28444223903d5f960ebb59adf1fc08", checked := Try.checked }
namespace Rows
def none {H : Type} : Left H := { results := [], args := [] }

/-- 'quipulaw11.CursorRunes': WHATEVER THE INPUT: true; the input reads as it did. -/
def cursorRunesSpec : ChangeSpec := { name := "cursorRunes", fn := fun _ => fun
  | [d1, d2] => { results := [.lit (.bool true)], args := [d1, d2] }
  | _ => none }
def cursorRunesRow : OpenClaim := { program := "ytfhlnmgaammofaa", sum := "6cc316e3e29d1b5e8acf39634df081477d28444223903d5f960ebb59adf1fc08", func := "quipu/quipulaw11.CursorRunes", spec := "cursorRunes", unfollowed := true, recurses := true, apart := false }
def CursorRunesSaid : Prop := cursorRunesRow.holds Try.pinned (OpenSpec.ofChange cursorRunesSpec)

/-- ITS FALSE NEIGHBOUR: 'it returns false'. Refute it at one input. -/
def cursorRunesWrong : ChangeSpec := { name := "cursorRunes", fn := fun _ => fun
  | [d1, d2] => { results := [.lit (.bool false)], args := [d1, d2] }
  | _ => none }
def CursorRunesWrongFalsely : Prop := cursorRunesRow.holds Try.pinned (OpenSpec.ofChange cursorRunesWrong)

/-- 'quipulaw11.CursorJoins': WHATEVER THE INPUT: true; the input reads as it did. -/
def cursorJoinsSpec : ChangeSpec := { name := "cursorJoins", fn := fun _ => fun
  | [d1, d2] => { results := [.lit (.bool true)], args := [d1, d2] }
  | _ => none }
def cursorJoinsRow : OpenClaim := { program := "ytfhlnmgaammofaa", sum := "6cc316e3e29d1b5e8acf39634df081477d28444223903d5f960ebb59adf1fc08", func := "quipu/quipulaw11.CursorJoins", spec := "cursorJoins", unfollowed := true, recurses := true, apart := false }
def CursorJoinsSaid : Prop := cursorJoinsRow.holds Try.pinned (OpenSpec.ofChange cursorJoinsSpec)

/-- ITS FALSE NEIGHBOUR: 'it returns false'. Refute it at one input. -/
def cursorJoinsWrong : ChangeSpec := { name := "cursorJoins", fn := fun _ => fun
  | [d1, d2] => { results := [.lit (.bool false)], args := [d1, d2] }
  | _ => none }
def CursorJoinsWrongFalsely : Prop := cursorJoinsRow.holds Try.pinned (OpenSpec.ofChange cursorJoinsWrong)

/-- 'quipulaw11.CursorLays': WHATEVER THE INPUT: true; the input reads as it did. -/
def cursorLaysSpec : ChangeSpec := { name := "cursorLays", fn := fun _ => fun
  | [d1, d2] => { results := [.lit (.bool true)], args := [d1, d2] }
  | _ => none }
def cursorLaysRow : OpenClaim := { program := "ytfhlnmgaammofaa", sum := "6cc316e3e29d1b5e8acf39634df081477d28444223903d5f960ebb59adf1fc08", func := "quipu/quipulaw11.CursorLays", spec := "cursorLays", unfollowed := true, recurses := true, apart := false }
def CursorLaysSaid : Prop := cursorLaysRow.holds Try.pinned (OpenSpec.ofChange cursorLaysSpec)

/-- ITS FALSE NEIGHBOUR: 'it returns false'. Refute it at one input. -/
def cursorLaysWrong : ChangeSpec := { name := "cursorLays", fn := fun _ => fun
  | [d1, d2] => { results := [.lit (.bool false)], args := [d1, d2] }
  | _ => none }
def CursorLaysWrongFalsely : Prop := cursorLaysRow.holds Try.pinned (OpenSpec.ofChange cursorLaysWrong)

/-- 'quipulaw11.CursorOnce': WHATEVER THE INPUT: true; the input reads as it did. -/
def cursorOnceSpec : ChangeSpec := { name := "cursorOnce", fn := fun _ => fun
  | [d1, d2] => { results := [.lit (.bool true)], args := [d1, d2] }
  | _ => none }
def cursorOnceRow : OpenClaim := { program := "ytfhlnmgaammofaa", sum := "6cc316e3e29d1b5e8acf39634df081477d28444223903d5f960ebb59adf1fc08", func := "quipu/quipulaw11.CursorOnce", spec := "cursorOnce", unfollowed := true, recurses := true, apart := false }
def CursorOnceSaid : Prop := cursorOnceRow.holds Try.pinned (OpenSpec.ofChange cursorOnceSpec)

/-- ITS FALSE NEIGHBOUR: 'it returns false'. Refute it at one input. -/
def cursorOnceWrong : ChangeSpec := { name := "cursorOnce", fn := fun _ => fun
  | [d1, d2] => { results := [.lit (.bool false)], args := [d1, d2] }
  | _ => none }
def CursorOnceWrongFalsely : Prop := cursorOnceRow.holds Try.pinned (OpenSpec.ofChange cursorOnceWrong)

/-- 'quipulaw11.CursorReads': WHATEVER THE INPUT: true; the input reads as it did. -/
def cursorReadsSpec : ChangeSpec := { name := "cursorReads", fn := fun _ => fun
  | [d1, d2] => { results := [.lit (.bool true)], args := [d1, d2] }
  | _ => none }
def cursorReadsRow : OpenClaim := { program := "ytfhlnmgaammofaa", sum := "6cc316e3e29d1b5e8acf39634df081477d28444223903d5f960ebb59adf1fc08", func := "quipu/quipulaw11.CursorReads", spec := "cursorReads", unfollowed := true, recurses := true, apart := false }
def CursorReadsSaid : Prop := cursorReadsRow.holds Try.pinned (OpenSpec.ofChange cursorReadsSpec)

/-- ITS FALSE NEIGHBOUR: 'it returns false'. Refute it at one input. -/
def cursorReadsWrong : ChangeSpec := { name := "cursorReads", fn := fun _ => fun
  | [d1, d2] => { results := [.lit (.bool false)], args := [d1, d2] }
  | _ => none }
def CursorReadsWrongFalsely : Prop := cursorReadsRow.holds Try.pinned (OpenSpec.ofChange cursorReadsWrong)

/-- 'quipulaw11.CursorBack': WHATEVER THE INPUT: true; the input reads as it did. -/
def cursorBackSpec : ChangeSpec := { name := "cursorBack", fn := fun _ => fun
  | [d] => { results := [.lit (.bool true)], args := [d] }
  | _ => none }
def cursorBackRow : OpenClaim := { program := "ytfhlnmgaammofaa", sum := "6cc316e3e29d1b5e8acf39634df081477d28444223903d5f960ebb59adf1fc08", func := "quipu/quipulaw11.CursorBack", spec := "cursorBack", unfollowed := true, recurses := true, apart := false }
def CursorBackSaid : Prop := cursorBackRow.holds Try.pinned (OpenSpec.ofChange cursorBackSpec)

/-- ITS FALSE NEIGHBOUR: 'it returns false'. Refute it at one input. -/
def cursorBackWrong : ChangeSpec := { name := "cursorBack", fn := fun _ => fun
  | [d] => { results := [.lit (.bool false)], args := [d] }
  | _ => none }
def CursorBackWrongFalsely : Prop := cursorBackRow.holds Try.pinned (OpenSpec.ofChange cursorBackWrong)

/- THE SECOND FORM. 'bulk': how many values and letters a reading holds, each counted each time it is reached (what is shared counts as often as it is met; a slice's spare places count too). A statement '..UptoSaid' is the law's where the arguments, and the package variables that the reading takes, are together of bulk at most 1048576: NARROWER than '..Said'. Prove '..Said' where nothing that the law and all that it calls make is longer than what came in: it says more and counts as full. Else prove '..UptoSaid'. A law counts once. -/
mutual
def uptoBulk {H : Type} : DataW H → Nat
  | .lit (.string bytes) => bytes.length + 1
  | .lit _ => 1
  | .nil => 1
  | .ptr d => uptoBulk d + 1
  | .slice elems spare => uptoBulkAll elems + uptoBulkAll spare + 1
  | .agg parts => uptoBulkAll parts + 1
  | .iface _ d => uptoBulk d + 1
  | .map entries => uptoBulkEntries entries + 1
  | .held _ => 1
def uptoBulkAll {H : Type} : List (DataW H) → Nat
  | [] => 0
  | d :: r => uptoBulk d + uptoBulkAll r
def uptoBulkEntries {H : Type} : List (Lit × DataW H) → Nat
  | [] => 0
  | x :: r => uptoBulkEntry x + uptoBulkEntries r
def uptoBulkEntry {H : Type} : Lit × DataW H → Nat
  | (.string bytes, d) => bytes.length + uptoBulk d + 1
  | (_, d) => uptoBulk d + 1
 end
def uptoSmall : (H : Type) → List (DataW H) → Bool := fun _ ds => decide (uptoBulkAll ds ≤ 1048576)
def OpenSpec.upto (s : _root_.Go.ChangeSpec) : _root_.Go.OpenSpec := { _root_.Go.OpenSpec.ofChange s with cond := some uptoSmall }

/-- 'quipulaw11.CursorRunes', WHERE WHAT IT READS IS OF BULK AT MOST 1048576: true; the input reads as it did. -/
def cursorRunesUptoRow : OpenClaim := { program := "ytfhlnmgaammofaa", sum := "6cc316e3e29d1b5e8acf39634df081477d28444223903d5f960ebb59adf1fc08", func := "quipu/quipulaw11.CursorRunes", spec := "cursorRunes", unfollowed := true, recurses := true, apart := false, narrowed := true }
def CursorRunesUptoSaid : Prop := cursorRunesUptoRow.holds Try.pinned (OpenSpec.upto cursorRunesSpec)

/-- 'quipulaw11.CursorJoins', WHERE WHAT IT READS IS OF BULK AT MOST 1048576: true; the input reads as it did. -/
def cursorJoinsUptoRow : OpenClaim := { program := "ytfhlnmgaammofaa", sum := "6cc316e3e29d1b5e8acf39634df081477d28444223903d5f960ebb59adf1fc08", func := "quipu/quipulaw11.CursorJoins", spec := "cursorJoins", unfollowed := true, recurses := true, apart := false, narrowed := true }
def CursorJoinsUptoSaid : Prop := cursorJoinsUptoRow.holds Try.pinned (OpenSpec.upto cursorJoinsSpec)

/-- 'quipulaw11.CursorLays', WHERE WHAT IT READS IS OF BULK AT MOST 1048576: true; the input reads as it did. -/
def cursorLaysUptoRow : OpenClaim := { program := "ytfhlnmgaammofaa", sum := "6cc316e3e29d1b5e8acf39634df081477d28444223903d5f960ebb59adf1fc08", func := "quipu/quipulaw11.CursorLays", spec := "cursorLays", unfollowed := true, recurses := true, apart := false, narrowed := true }
def CursorLaysUptoSaid : Prop := cursorLaysUptoRow.holds Try.pinned (OpenSpec.upto cursorLaysSpec)

/-- 'quipulaw11.CursorOnce', WHERE WHAT IT READS IS OF BULK AT MOST 1048576: true; the input reads as it did. -/
def cursorOnceUptoRow : OpenClaim := { program := "ytfhlnmgaammofaa", sum := "6cc316e3e29d1b5e8acf39634df081477d28444223903d5f960ebb59adf1fc08", func := "quipu/quipulaw11.CursorOnce", spec := "cursorOnce", unfollowed := true, recurses := true, apart := false, narrowed := true }
def CursorOnceUptoSaid : Prop := cursorOnceUptoRow.holds Try.pinned (OpenSpec.upto cursorOnceSpec)

/-- 'quipulaw11.CursorReads', WHERE WHAT IT READS IS OF BULK AT MOST 1048576: true; the input reads as it did. -/
def cursorReadsUptoRow : OpenClaim := { program := "ytfhlnmgaammofaa", sum := "6cc316e3e29d1b5e8acf39634df081477d28444223903d5f960ebb59adf1fc08", func := "quipu/quipulaw11.CursorReads", spec := "cursorReads", unfollowed := true, recurses := true, apart := false, narrowed := true }
def CursorReadsUptoSaid : Prop := cursorReadsUptoRow.holds Try.pinned (OpenSpec.upto cursorReadsSpec)

/-- 'quipulaw11.CursorBack', WHERE WHAT IT READS IS OF BULK AT MOST 1048576: true; the input reads as it did. -/
def cursorBackUptoRow : OpenClaim := { program := "ytfhlnmgaammofaa", sum := "6cc316e3e29d1b5e8acf39634df081477d28444223903d5f960ebb59adf1fc08", func := "quipu/quipulaw11.CursorBack", spec := "cursorBack", unfollowed := true, recurses := true, apart := false, narrowed := true }
def CursorBackUptoSaid : Prop := cursorBackUptoRow.holds Try.pinned (OpenSpec.upto cursorBackSpec)

end Rows
end Go.Proofs.Ytfhlnmgaammofaa
