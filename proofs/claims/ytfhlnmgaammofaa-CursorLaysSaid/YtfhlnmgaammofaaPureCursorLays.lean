/- Proved: for every number and every text of at most 2^47 - 4096 bytes, CursorLays answers true (the pure statement of the print). -/
import Derived.Test.YtfhlnmgaammofaaQx6
import Derived.Test.YtfhlnmgaammofaaR2
import Derived.Test.YtfhlnmgaammofaaR4
namespace Go.Proofs.Ytfhlnmgaammofaa.Pure
open Go.RowKit Go.Proofs.Ytfhlnmgaammofaa.Q Go.Proofs.YtfhlnmgaammofaaW.PrintWords Go.Proofs.YtfhlnmgaammofaaW.PrintLast Go.Proofs.Ytfhlnmgaammofaa.R1

theorem CursorLays : quipulaw11_CursorLays.Pure := by
  intro n s hn hs
  have hs' : s.size ≤ 281474976710656 := by omega
  refine ⟨s.size + 1 + 40 + 8, ?_⟩
  unfold quipulaw11_CursorLays.f
  have h1 := refPutText s hs' 40
  have h2 := curPutText s hs' 35
  rw [show s.size + 1 + (35 + 8) + 5 = s.size + 1 + 40 + 8 by omega] at h2
  rw [h1, h2, Option.bind_some, Option.bind_some]
  simp only [cursor_Put8.f, cursor_Put16.f, cursor_Put32.f]
  rw [curP1 n _ (by omega), refP1 n _ (by omega), curP2 n _ (by omega), refP2 n _ (by omega), curP4 n _ (by omega), refP4 n _ (by omega)]
  simp only [Option.bind_some, if_true]
  rw [fixed_ev _ (by omega)]
  rfl
end Go.Proofs.Ytfhlnmgaammofaa.Pure
