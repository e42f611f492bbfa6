/-
  No cell of these rows narrows 'for every input' (looked for: loops, veiled, ifaces, maps, wideKeys, modest, calm, conditions, laid).
  DERIVED. THE GIVEN ROWS OF THIS SEAT. 5 by the template 'for every input the law returns true; each argument reads behind the call as it read before'; 0 by the template 'total and deterministic' (their statements: YtieipeigjhicfaaTotals.lean).
  GIVEN WITH THE SEED: the statements are not yours to turn. If you find one false, say at which input.
  Laid BY PROGRAM, IN A SANDBOX (cutbox-rows.mjs): the forced cells as the released guide's own fill.sh prints them over the translation 2bd65784de7c6745… (all of the seat's roots in one cut). By AI agents, Wed Nov 11 2026. No macro, syntax, notation, axiom, sorry.
-/
import Derived.Test.YtieipeigjhicfaaChecked
import GoSem.Claim
import GoSem.ClaimJoined
import GoSem.ClaimMapViews
import Derived.JoinedTies
import Derived.KernelRfl
namespace Go.Proofs.Ytieipeigjhicfaa
/- THE CELL 'sum', in the pinned program and in every row, IS THE sha256 OF THE DUMP (.gsa) THAT YtieipeigjhicfaaProg.lean LOADS. Nothing in Lean hashes anything: it is a label: what it is worth is what the hold of that sum in a sandbox is worth. -/
noncomputable def Try.pinned : Pinned := { name := "ytieipeigjhicfaa", sum := "2bd65784de7c67459565b5b9bb01db4aad435648ccc208af065a5adc23ec6f83", checked := Try.checked }
namespace Rows
def none {H : Type} : Left H := { results := [], args := [] }

/-- 'quipulaw13.AffixTells': WHATEVER THE INPUT: true; the input reads as it did. -/
def affixTellsSpec : ChangeSpec := { name := "affixTells", fn := fun _ => fun
  | [d1, d2, d3] => { results := [.lit (.bool true)], args := [d1, d2, d3] }
  | _ => none }
def affixTellsRow : OpenClaim := { program := "ytieipeigjhicfaa", sum := "2bd65784de7c67459565b5b9bb01db4aad435648ccc208af065a5adc23ec6f83", func := "quipu/quipulaw13.AffixTells", spec := "affixTells", inPlace := ["internal/abi.NoEscape", "internal/bytealg.IndexByteString", "internal/bytealg.IndexString", "internal/bytealg.MakeNoZero"], unfollowed := true, recurses := true, named := ["internal/bytealg.MaxLen"], apart := false }
def AffixTellsSaid : Prop := affixTellsRow.holds Try.pinned (OpenSpec.ofChange affixTellsSpec)

/-- ITS FALSE NEIGHBOUR: 'it returns false'. Refute it at one input. -/
def affixTellsWrong : ChangeSpec := { name := "affixTells", fn := fun _ => fun
  | [d1, d2, d3] => { results := [.lit (.bool false)], args := [d1, d2, d3] }
  | _ => none }
def AffixTellsWrongFalsely : Prop := affixTellsRow.holds Try.pinned (OpenSpec.ofChange affixTellsWrong)

/-- 'quipulaw13.AffixReads': WHATEVER THE INPUT: true; the input reads as it did. -/
def affixReadsSpec : ChangeSpec := { name := "affixReads", fn := fun _ => fun
  | [d] => { results := [.lit (.bool true)], args := [d] }
  | _ => none }
def affixReadsRow : OpenClaim := { program := "ytieipeigjhicfaa", sum := "2bd65784de7c67459565b5b9bb01db4aad435648ccc208af065a5adc23ec6f83", func := "quipu/quipulaw13.AffixReads", spec := "affixReads", inPlace := ["internal/bytealg.IndexByteString", "internal/bytealg.IndexString", "internal/abi.NoEscape", "internal/bytealg.MakeNoZero"], unfollowed := true, recurses := true, named := ["internal/bytealg.MaxLen"], apart := false }
def AffixReadsSaid : Prop := affixReadsRow.holds Try.pinned (OpenSpec.ofChange affixReadsSpec)

/-- ITS FALSE NEIGHBOUR: 'it returns false'. Refute it at one input. -/
def affixReadsWrong : ChangeSpec := { name := "affixReads", fn := fun _ => fun
  | [d] => { results := [.lit (.bool false)], args := [d] }
  | _ => none }
def AffixReadsWrongFalsely : Prop := affixReadsRow.holds Try.pinned (OpenSpec.ofChange affixReadsWrong)

/-- 'quipulaw13.AffixBack': WHATEVER THE INPUT: true; the input reads as it did. -/
def affixBackSpec : ChangeSpec := { name := "affixBack", fn := fun _ => fun
  | [d1, d2] => { results := [.lit (.bool true)], args := [d1, d2] }
  | _ => none }
def affixBackRow : OpenClaim := { program := "ytieipeigjhicfaa", sum := "2bd65784de7c67459565b5b9bb01db4aad435648ccc208af065a5adc23ec6f83", func := "quipu/quipulaw13.AffixBack", spec := "affixBack", inPlace := ["internal/abi.NoEscape", "internal/bytealg.IndexByteString", "internal/bytealg.IndexString", "internal/bytealg.MakeNoZero"], unfollowed := true, recurses := true, named := ["internal/bytealg.MaxLen"], apart := false }
def AffixBackSaid : Prop := affixBackRow.holds Try.pinned (OpenSpec.ofChange affixBackSpec)

/-- ITS FALSE NEIGHBOUR: 'it returns false'. Refute it at one input. -/
def affixBackWrong : ChangeSpec := { name := "affixBack", fn := fun _ => fun
  | [d1, d2] => { results := [.lit (.bool false)], args := [d1, d2] }
  | _ => none }
def AffixBackWrongFalsely : Prop := affixBackRow.holds Try.pinned (OpenSpec.ofChange affixBackWrong)

/-- 'quipulaw13.AffixJoins': WHATEVER THE INPUT: true; the input reads as it did. -/
def affixJoinsSpec : ChangeSpec := { name := "affixJoins", fn := fun _ => fun
  | [d1, d2] => { results := [.lit (.bool true)], args := [d1, d2] }
  | _ => none }
def affixJoinsRow : OpenClaim := { program := "ytieipeigjhicfaa", sum := "2bd65784de7c67459565b5b9bb01db4aad435648ccc208af065a5adc23ec6f83", func := "quipu/quipulaw13.AffixJoins", spec := "affixJoins", inPlace := ["internal/bytealg.IndexByteString", "internal/bytealg.IndexString", "internal/abi.NoEscape", "internal/bytealg.MakeNoZero"], unfollowed := true, recurses := true, named := ["internal/bytealg.MaxLen"], apart := false }
def AffixJoinsSaid : Prop := affixJoinsRow.holds Try.pinned (OpenSpec.ofChange affixJoinsSpec)

/-- ITS FALSE NEIGHBOUR: 'it returns false'. Refute it at one input. -/
def affixJoinsWrong : ChangeSpec := { name := "affixJoins", fn := fun _ => fun
  | [d1, d2] => { results := [.lit (.bool false)], args := [d1, d2] }
  | _ => none }
def AffixJoinsWrongFalsely : Prop := affixJoinsRow.holds Try.pinned (OpenSpec.ofChange affixJoinsWrong)

/-- 'quipulaw13.AffixTurns': WHATEVER THE INPUT: true; the input reads as it did. -/
def affixTurnsSpec : ChangeSpec := { name := "affixTurns", fn := fun _ => fun
  | [d1, d2, d3] => { results := [.lit (.bool true)], args := [d1, d2, d3] }
  | _ => none }
def affixTurnsRow : OpenClaim := { program := "ytieipeigjhicfaa", sum := "2bd65784de7c67459565b5b9bb01db4aad435648ccc208af065a5adc23ec6f83", func := "quipu/quipulaw13.AffixTurns", spec := "affixTurns", inPlace := ["internal/bytealg.IndexByteString", "internal/bytealg.IndexString", "internal/abi.NoEscape", "internal/bytealg.MakeNoZero"], unfollowed := true, recurses := true, named := ["internal/bytealg.MaxLen"], apart := false }
def AffixTurnsSaid : Prop := affixTurnsRow.holds Try.pinned (OpenSpec.ofChange affixTurnsSpec)

/-- ITS FALSE NEIGHBOUR: 'it returns false'. Refute it at one input. -/
def affixTurnsWrong : ChangeSpec := { name := "affixTurns", fn := fun _ => fun
  | [d1, d2, d3] => { results := [.lit (.bool false)], args := [d1, d2, d3] }
  | _ => none }
def AffixTurnsWrongFalsely : Prop := affixTurnsRow.holds Try.pinned (OpenSpec.ofChange affixTurnsWrong)

/- THE SECOND FORM. 'bulk': how many values and letters a reading holds, each counted each time it is reached (what is shared counts as often as it is met; a slice's spare places count too). A statement '..UptoSaid' is the law's where the arguments, and the package variables that the reading takes, are together of bulk at most 1048576: NARROWER than '..Said'. Prove '..Said' where nothing that the law and all that it calls make is longer than what came in: it says more and counts as full. Else prove '..UptoSaid'. A law counts once. -/
mutual
def uptoBulk {H : Type} : DataW H → Nat
  | .lit (.string bytes) => bytes.length + 1
  | .lit _ => 1
  | .nil => 1
  | .ptr d => uptoBulk d + 1
  | .slice elems spare => uptoBulkAll elems + uptoBulkAll spare + 1
  | .agg parts => uptoBulkAll parts + 1
  | .iface _ d => uptoBulk d + 1
  | .map entries => uptoBulkEntries entries + 1
  | .held _ => 1
def uptoBulkAll {H : Type} : List (DataW H) → Nat
  | [] => 0
  | d :: r => uptoBulk d + uptoBulkAll r
def uptoBulkEntries {H : Type} : List (Lit × DataW H) → Nat
  | [] => 0
  | x :: r => uptoBulkEntry x + uptoBulkEntries r
def uptoBulkEntry {H : Type} : Lit × DataW H → Nat
  | (.string bytes, d) => bytes.length + uptoBulk d + 1
  | (_, d) => uptoBulk d + 1
 end
def uptoSmall : (H : Type) → List (DataW H) → Bool := fun _ ds => decide (uptoBulkAll ds ≤ 1048576)
def OpenSpec.upto (s : _root_.Go.ChangeSpec) : _root_.Go.OpenSpec := { _root_.Go.OpenSpec.ofChange s with cond := some uptoSmall }

/-- 'quipulaw13.AffixTells', WHERE WHAT IT READS IS OF BULK AT MOST 1048576: true; the input reads as it did. -/
def affixTellsUptoRow : OpenClaim := { program := "ytieipeigjhicfaa", sum := "2bd65784de7c67459565b5b9bb01db4aad435648ccc208af065a5adc23ec6f83", func := "quipu/quipulaw13.AffixTells", spec := "affixTells", inPlace := ["internal/abi.NoEscape", "internal/bytealg.IndexByteString", "internal/bytealg.IndexString", "internal/bytealg.MakeNoZero"], unfollowed := true, recurses := true, named := ["internal/bytealg.MaxLen"], apart := false, narrowed := true }
def AffixTellsUptoSaid : Prop := affixTellsUptoRow.holds Try.pinned (OpenSpec.upto affixTellsSpec)

/-- 'quipulaw13.AffixReads', WHERE WHAT IT READS IS OF BULK AT MOST 1048576: true; the input reads as it did. -/
def affixReadsUptoRow : OpenClaim := { program := "ytieipeigjhicfaa", sum := "2bd65784de7c67459565b5b9bb01db4aad435648ccc208af065a5adc23ec6f83", func := "quipu/quipulaw13.AffixReads", spec := "affixReads", inPlace := ["internal/bytealg.IndexByteString", "internal/bytealg.IndexString", "internal/abi.NoEscape", "internal/bytealg.MakeNoZero"], unfollowed := true, recurses := true, named := ["internal/bytealg.MaxLen"], apart := false, narrowed := true }
def AffixReadsUptoSaid : Prop := affixReadsUptoRow.holds Try.pinned (OpenSpec.upto affixReadsSpec)

/-- 'quipulaw13.AffixBack', WHERE WHAT IT READS IS OF BULK AT MOST 1048576: true; the input reads as it did. -/
def affixBackUptoRow : OpenClaim := { program := "ytieipeigjhicfaa", sum := "2bd65784de7c67459565b5b9bb01db4aad435648ccc208af065a5adc23ec6f83", func := "quipu/quipulaw13.AffixBack", spec := "affixBack", inPlace := ["internal/abi.NoEscape", "internal/bytealg.IndexByteString", "internal/bytealg.IndexString", "internal/bytealg.MakeNoZero"], unfollowed := true, recurses := true, named := ["internal/bytealg.MaxLen"], apart := false, narrowed := true }
def AffixBackUptoSaid : Prop := affixBackUptoRow.holds Try.pinned (OpenSpec.upto affixBackSpec)

/-- 'quipulaw13.AffixJoins', WHERE WHAT IT READS IS OF BULK AT MOST 1048576: true; the input reads as it did. -/
def affixJoinsUptoRow : OpenClaim := { program := "ytieipeigjhicfaa", sum := "2bd65784de7c67459565b5b9bb01db4aad435648ccc208af065a5adc23ec6f83", func := "quipu/quipulaw13.AffixJoins", spec := "affixJoins", inPlace := ["internal/bytealg.IndexByteString", "internal/bytealg.IndexString", "internal/abi.NoEscape", "internal/bytealg.MakeNoZero"], unfollowed := true, recurses := true, named := ["internal/bytealg.MaxLen"], apart := false, narrowed := true }
def AffixJoinsUptoSaid : Prop := affixJoinsUptoRow.holds Try.pinned (OpenSpec.upto affixJoinsSpec)

/-- 'quipulaw13.AffixTurns', WHERE WHAT IT READS IS OF BULK AT MOST 1048576: true; the input reads as it did. -/
def affixTurnsUptoRow : OpenClaim := { program := "ytieipeigjhicfaa", sum := "2bd65784de7c67459565b5b9bb01db4aad435648ccc208af065a5adc23ec6f83", func := "quipu/quipulaw13.AffixTurns", spec := "affixTurns", inPlace := ["internal/bytealg.IndexByteString", "internal/bytealg.IndexString", "internal/abi.NoEscape", "internal/bytealg.MakeNoZero"], unfollowed := true, recurses := true, named := ["internal/bytealg.MaxLen"], apart := false, narrowed := true }
def AffixTurnsUptoSaid : Prop := affixTurnsUptoRow.holds Try.pinned (OpenSpec.upto affixTurnsSpec)

end Rows
end Go.Proofs.Ytieipeigjhicfaa
