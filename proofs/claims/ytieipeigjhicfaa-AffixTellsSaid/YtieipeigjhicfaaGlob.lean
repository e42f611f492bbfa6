/- What a reader of internal/bytealg.MaxLen is owed: the variable's cell holds an int. -/
import Derived.Test.YtieipeigjhicfaaProg
import Derived.Below
namespace Go.Proofs.Ytieipeigjhicfaa.Q
open Go.RowKit
/-- The library's own variable (the first block) reads as an int. -/
def Glob (w : World) : Prop := ∃ m : Int, w.cell? ⟨0, 0, none⟩ = some (.int .i64 m)
theorem Glob_below {w W : World} (h : Glob w) (hb : Below w.heap.size w W) : Glob W := by
  obtain ⟨m, hm⟩ := h
  exact ⟨m, (hb.cell (World.block_lt_of_cell? w _ hm)).trans hm⟩
end Go.Proofs.Ytieipeigjhicfaa.Q
