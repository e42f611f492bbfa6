import Derived.Test.YtacnjemndfmbhaaProg
import Derived.Below
section
namespace Go.Proofs.Ytacnjemndfmbhaa.Q
open Go.RowKit
def Glob (w : World) : Prop := ∃ m : Int, w.cell? ⟨0, 0, none⟩ = some (.int .i64 m)
theorem Glob_below {w W : World} (h : Glob w) (hb : Below w.heap.size w W) : Glob W := by
 obtain ⟨m, hm⟩ := h
 exact ⟨m, (hb.cell (World.block_lt_of_cell? w _ hm)).trans hm⟩
end Go.Proofs.Ytacnjemndfmbhaa.Q
end
