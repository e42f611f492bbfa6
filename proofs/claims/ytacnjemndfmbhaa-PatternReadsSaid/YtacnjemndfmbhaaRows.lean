/-
  No cell of these rows narrows 'for every input' (looked for: loops, veiled, ifaces, maps, wideKeys, modest, calm, conditions, laid).
  DERIVED. THE GIVEN ROWS OF THIS SEAT. 5 by the template 'for every input the law returns true; each argument reads behind the call as it read before'; 0 by the template 'total and deterministic' (their statements: YtacnjemndfmbhaaTotals.lean).
  GIVEN WITH THE SEED: the statements are not yours to turn. If you find one false, say at which input.
  Laid BY PROGRAM, IN A SANDBOX (cutbox-rows.mjs): the forced cells as the released guide's own fill.sh prints them over the translation e72fff35e1daa607… (all of the seat's roots in one cut). By AI agents, Wed Nov 11 2026. No macro, syntax, notation, axiom, sorry.
-/
import Derived.Test.YtacnjemndfmbhaaChecked
import GoSem.Claim
import GoSem.ClaimJoined
import GoSem.ClaimMapViews
import Derived.JoinedTies
import Derived.KernelRfl
namespace Go.Proofs.Ytacnjemndfmbhaa
/- THE CELL 'sum', in the pinned program and in every row, IS THE sha256 OF THE DUMP (.gsa) THAT YtacnjemndfmbhaaProg.lean LOADS. Nothing in Lean hashes anything: it is a label: what it is worth is what the hold of that sum in a sandbox is worth. -/
noncomputable def Try.pinned : Pinned := { name := "ytacnjemndfmbhaa", sum := "e72fff35e1daa607f5d9b03b32b028ffa2a4727eef9b9dcd56dcd5d462bb6d74", checked := Try.checked }
namespace Rows
def none {H : Type} : Left H := { results := [], args := [] }

/-- 'quipulaw14.PatternTells': WHATEVER THE INPUT: true; the input reads as it did. -/
def patternTellsSpec : ChangeSpec := { name := "patternTells", fn := fun _ => fun
  | [d] => { results := [.lit (.bool true)], args := [d] }
  | _ => none }
def patternTellsRow : OpenClaim := { program := "ytacnjemndfmbhaa", sum := "e72fff35e1daa607f5d9b03b32b028ffa2a4727eef9b9dcd56dcd5d462bb6d74", func := "quipu/quipulaw14.PatternTells", spec := "patternTells", inPlace := ["internal/abi.NoEscape", "internal/bytealg.MakeNoZero", "internal/bytealg.IndexByteString", "internal/bytealg.IndexString"], unfollowed := true, recurses := true, named := ["internal/bytealg.MaxLen"], apart := false }
def PatternTellsSaid : Prop := patternTellsRow.holds Try.pinned (OpenSpec.ofChange patternTellsSpec)

/-- ITS FALSE NEIGHBOUR: 'it returns false'. Refute it at one input. -/
def patternTellsWrong : ChangeSpec := { name := "patternTells", fn := fun _ => fun
  | [d] => { results := [.lit (.bool false)], args := [d] }
  | _ => none }
def PatternTellsWrongFalsely : Prop := patternTellsRow.holds Try.pinned (OpenSpec.ofChange patternTellsWrong)

/-- 'quipulaw14.PatternReads': WHATEVER THE INPUT: true; the input reads as it did. -/
def patternReadsSpec : ChangeSpec := { name := "patternReads", fn := fun _ => fun
  | [d] => { results := [.lit (.bool true)], args := [d] }
  | _ => none }
def patternReadsRow : OpenClaim := { program := "ytacnjemndfmbhaa", sum := "e72fff35e1daa607f5d9b03b32b028ffa2a4727eef9b9dcd56dcd5d462bb6d74", func := "quipu/quipulaw14.PatternReads", spec := "patternReads", inPlace := ["internal/bytealg.IndexByteString", "internal/bytealg.IndexString", "internal/abi.NoEscape", "internal/bytealg.MakeNoZero"], unfollowed := true, recurses := true, named := ["internal/bytealg.MaxLen"], apart := false }
def PatternReadsSaid : Prop := patternReadsRow.holds Try.pinned (OpenSpec.ofChange patternReadsSpec)

/-- ITS FALSE NEIGHBOUR: 'it returns false'. Refute it at one input. -/
def patternReadsWrong : ChangeSpec := { name := "patternReads", fn := fun _ => fun
  | [d] => { results := [.lit (.bool false)], args := [d] }
  | _ => none }
def PatternReadsWrongFalsely : Prop := patternReadsRow.holds Try.pinned (OpenSpec.ofChange patternReadsWrong)

/-- 'quipulaw14.PatternBack': WHATEVER THE INPUT: true; the input reads as it did. -/
def patternBackSpec : ChangeSpec := { name := "patternBack", fn := fun _ => fun
  | [d1, d2] => { results := [.lit (.bool true)], args := [d1, d2] }
  | _ => none }
def patternBackRow : OpenClaim := { program := "ytacnjemndfmbhaa", sum := "e72fff35e1daa607f5d9b03b32b028ffa2a4727eef9b9dcd56dcd5d462bb6d74", func := "quipu/quipulaw14.PatternBack", spec := "patternBack", inPlace := ["internal/abi.NoEscape", "internal/bytealg.MakeNoZero", "internal/bytealg.IndexByteString", "internal/bytealg.IndexString"], unfollowed := true, recurses := true, named := ["internal/bytealg.MaxLen"], apart := false }
def PatternBackSaid : Prop := patternBackRow.holds Try.pinned (OpenSpec.ofChange patternBackSpec)

/-- ITS FALSE NEIGHBOUR: 'it returns false'. Refute it at one input. -/
def patternBackWrong : ChangeSpec := { name := "patternBack", fn := fun _ => fun
  | [d1, d2] => { results := [.lit (.bool false)], args := [d1, d2] }
  | _ => none }
def PatternBackWrongFalsely : Prop := patternBackRow.holds Try.pinned (OpenSpec.ofChange patternBackWrong)

/-- 'quipulaw14.PatternHalves': WHATEVER THE INPUT: true; the input reads as it did. -/
def patternHalvesSpec : ChangeSpec := { name := "patternHalves", fn := fun _ => fun
  | [d1, d2] => { results := [.lit (.bool true)], args := [d1, d2] }
  | _ => none }
def patternHalvesRow : OpenClaim := { program := "ytacnjemndfmbhaa", sum := "e72fff35e1daa607f5d9b03b32b028ffa2a4727eef9b9dcd56dcd5d462bb6d74", func := "quipu/quipulaw14.PatternHalves", spec := "patternHalves", inPlace := ["internal/bytealg.IndexByteString", "internal/bytealg.IndexString", "internal/abi.NoEscape", "internal/bytealg.MakeNoZero"], unfollowed := true, recurses := true, named := ["internal/bytealg.MaxLen"], apart := false }
def PatternHalvesSaid : Prop := patternHalvesRow.holds Try.pinned (OpenSpec.ofChange patternHalvesSpec)

/-- ITS FALSE NEIGHBOUR: 'it returns false'. Refute it at one input. -/
def patternHalvesWrong : ChangeSpec := { name := "patternHalves", fn := fun _ => fun
  | [d1, d2] => { results := [.lit (.bool false)], args := [d1, d2] }
  | _ => none }
def PatternHalvesWrongFalsely : Prop := patternHalvesRow.holds Try.pinned (OpenSpec.ofChange patternHalvesWrong)

/-- 'quipulaw14.PatternWide': WHATEVER THE INPUT: true; the input reads as it did. -/
def patternWideSpec : ChangeSpec := { name := "patternWide", fn := fun _ => fun
  | [d] => { results := [.lit (.bool true)], args := [d] }
  | _ => none }
def patternWideRow : OpenClaim := { program := "ytacnjemndfmbhaa", sum := "e72fff35e1daa607f5d9b03b32b028ffa2a4727eef9b9dcd56dcd5d462bb6d74", func := "quipu/quipulaw14.PatternWide", spec := "patternWide", inPlace := ["internal/abi.NoEscape", "internal/bytealg.MakeNoZero", "internal/bytealg.IndexByteString", "internal/bytealg.IndexString"], unfollowed := true, recurses := true, named := ["internal/bytealg.MaxLen"], apart := false }
def PatternWideSaid : Prop := patternWideRow.holds Try.pinned (OpenSpec.ofChange patternWideSpec)

/-- ITS FALSE NEIGHBOUR: 'it returns false'. Refute it at one input. -/
def patternWideWrong : ChangeSpec := { name := "patternWide", fn := fun _ => fun
  | [d] => { results := [.lit (.bool false)], args := [d] }
  | _ => none }
def PatternWideWrongFalsely : Prop := patternWideRow.holds Try.pinned (OpenSpec.ofChange patternWideWrong)

/- THE SECOND FORM. 'bulk': how many values and letters a reading holds, each counted each time it is reached (what is shared counts as often as it is met; a slice's spare places count too). A statement '..UptoSaid' is the law's where the arguments, and the package variables that the reading takes, are together of bulk at most 1048576: NARROWER than '..Said'. Prove '..Said' where nothing that the law and all that it calls make is longer than what came in: it says more and counts as full. Else prove '..UptoSaid'. A law counts once. -/
mutual
def uptoBulk {H : Type} : DataW H → Nat
  | .lit (.string bytes) => bytes.length + 1
  | .lit _ => 1
  | .nil => 1
  | .ptr d => uptoBulk d + 1
  | .slice elems spare => uptoBulkAll elems + uptoBulkAll spare + 1
  | .agg parts => uptoBulkAll parts + 1
  | .iface _ d => uptoBulk d + 1
  | .map entries => uptoBulkEntries entries + 1
  | .held _ => 1
def uptoBulkAll {H : Type} : List (DataW H) → Nat
  | [] => 0
  | d :: r => uptoBulk d + uptoBulkAll r
def uptoBulkEntries {H : Type} : List (Lit × DataW H) → Nat
  | [] => 0
  | x :: r => uptoBulkEntry x + uptoBulkEntries r
def uptoBulkEntry {H : Type} : Lit × DataW H → Nat
  | (.string bytes, d) => bytes.length + uptoBulk d + 1
  | (_, d) => uptoBulk d + 1
 end
def uptoSmall : (H : Type) → List (DataW H) → Bool := fun _ ds => decide (uptoBulkAll ds ≤ 1048576)
def OpenSpec.upto (s : _root_.Go.ChangeSpec) : _root_.Go.OpenSpec := { _root_.Go.OpenSpec.ofChange s with cond := some uptoSmall }

/-- 'quipulaw14.PatternTells', WHERE WHAT IT READS IS OF BULK AT MOST 1048576: true; the input reads as it did. -/
def patternTellsUptoRow : OpenClaim := { program := "ytacnjemndfmbhaa", sum := "e72fff35e1daa607f5d9b03b32b028ffa2a4727eef9b9dcd56dcd5d462bb6d74", func := "quipu/quipulaw14.PatternTells", spec := "patternTells", inPlace := ["internal/abi.NoEscape", "internal/bytealg.MakeNoZero", "internal/bytealg.IndexByteString", "internal/bytealg.IndexString"], unfollowed := true, recurses := true, named := ["internal/bytealg.MaxLen"], apart := false, narrowed := true }
def PatternTellsUptoSaid : Prop := patternTellsUptoRow.holds Try.pinned (OpenSpec.upto patternTellsSpec)

/-- 'quipulaw14.PatternReads', WHERE WHAT IT READS IS OF BULK AT MOST 1048576: true; the input reads as it did. -/
def patternReadsUptoRow : OpenClaim := { program := "ytacnjemndfmbhaa", sum := "e72fff35e1daa607f5d9b03b32b028ffa2a4727eef9b9dcd56dcd5d462bb6d74", func := "quipu/quipulaw14.PatternReads", spec := "patternReads", inPlace := ["internal/bytealg.IndexByteString", "internal/bytealg.IndexString", "internal/abi.NoEscape", "internal/bytealg.MakeNoZero"], unfollowed := true, recurses := true, named := ["internal/bytealg.MaxLen"], apart := false, narrowed := true }
def PatternReadsUptoSaid : Prop := patternReadsUptoRow.holds Try.pinned (OpenSpec.upto patternReadsSpec)

/-- 'quipulaw14.PatternBack', WHERE WHAT IT READS IS OF BULK AT MOST 1048576: true; the input reads as it did. -/
def patternBackUptoRow : OpenClaim := { program := "ytacnjemndfmbhaa", sum := "e72fff35e1daa607f5d9b03b32b028ffa2a4727eef9b9dcd56dcd5d462bb6d74", func := "quipu/quipulaw14.PatternBack", spec := "patternBack", inPlace := ["internal/abi.NoEscape", "internal/bytealg.MakeNoZero", "internal/bytealg.IndexByteString", "internal/bytealg.IndexString"], unfollowed := true, recurses := true, named := ["internal/bytealg.MaxLen"], apart := false, narrowed := true }
def PatternBackUptoSaid : Prop := patternBackUptoRow.holds Try.pinned (OpenSpec.upto patternBackSpec)

/-- 'quipulaw14.PatternHalves', WHERE WHAT IT READS IS OF BULK AT MOST 1048576: true; the input reads as it did. -/
def patternHalvesUptoRow : OpenClaim := { program := "ytacnjemndfmbhaa", sum := "e72fff35e1daa607f5d9b03b32b028ffa2a4727eef9b9dcd56dcd5d462bb6d74", func := "quipu/quipulaw14.PatternHalves", spec := "patternHalves", inPlace := ["internal/bytealg.IndexByteString", "internal/bytealg.IndexString", "internal/abi.NoEscape", "internal/bytealg.MakeNoZero"], unfollowed := true, recurses := true, named := ["internal/bytealg.MaxLen"], apart := false, narrowed := true }
def PatternHalvesUptoSaid : Prop := patternHalvesUptoRow.holds Try.pinned (OpenSpec.upto patternHalvesSpec)

/-- 'quipulaw14.PatternWide', WHERE WHAT IT READS IS OF BULK AT MOST 1048576: true; the input reads as it did. -/
def patternWideUptoRow : OpenClaim := { program := "ytacnjemndfmbhaa", sum := "e72fff35e1daa607f5d9b03b32b028ffa2a4727eef9b9dcd56dcd5d462bb6d74", func := "quipu/quipulaw14.PatternWide", spec := "patternWide", inPlace := ["internal/abi.NoEscape", "internal/bytealg.MakeNoZero", "internal/bytealg.IndexByteString", "internal/bytealg.IndexString"], unfollowed := true, recurses := true, named := ["internal/bytealg.MaxLen"], apart := false, narrowed := true }
def PatternWideUptoSaid : Prop := patternWideUptoRow.holds Try.pinned (OpenSpec.upto patternWideSpec)

end Rows
end Go.Proofs.Ytacnjemndfmbhaa
