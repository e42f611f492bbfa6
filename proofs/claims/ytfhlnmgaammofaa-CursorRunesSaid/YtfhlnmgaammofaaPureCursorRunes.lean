/- Proved: for every text of at most 2^47 - 4096 bytes and every place, CursorRunes answers true (the pure statement of the print). -/
import Derived.Test.YtfhlnmgaammofaaQx5
import Derived.Test.YtfhlnmgaammofaaR2
namespace Go.Proofs.Ytfhlnmgaammofaa.Pure
open Go.RowKit Go.Proofs.Ytfhlnmgaammofaa.Q Go.Proofs.YtfhlnmgaammofaaW.PrintWords Go.Proofs.YtfhlnmgaammofaaW.PrintLast Go.Proofs.Ytfhlnmgaammofaa.R1

theorem CursorRunes : quipulaw11_CursorRunes.Pure := by
  intro s p hs hp
  have hs' : s.size ≤ 281474976710656 := by omega
  refine ⟨s.size + 1 + 40 + 8, ?_⟩
  unfold quipulaw11_CursorRunes.f
  rw [refRunes s hs' 40, Option.bind_some, show s.size + 1 + 40 + 8 = (s.size + 44) + 5 by omega, curRune s p hs', Option.bind_some, show s.size + 44 + 5 = (s.size + 41) + 8 by omega, refRune s p hs', Option.bind_some, if_pos rfl,
    show s.size + 41 + 8 = s.size + 1 + 43 + 5 by omega, curValid s hs' 43, Option.bind_some, if_pos (by simp), curRunes s hs' 43, Option.bind_some, if_pos rfl, fixed_ev _ (by omega)]
  rfl
end Go.Proofs.Ytfhlnmgaammofaa.Pure
