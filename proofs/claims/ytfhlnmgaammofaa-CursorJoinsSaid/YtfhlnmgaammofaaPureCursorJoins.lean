/- Proved: for every two texts of at most 2^47 - 4096 bytes each, CursorJoins answers true (the pure statement of the print). -/
import Derived.Test.YtfhlnmgaammofaaQx5
import Derived.Test.YtfhlnmgaammofaaR2
import Derived.Test.YtfhlnmgaammofaaR3
namespace Go.Proofs.Ytfhlnmgaammofaa.Pure
open Go.RowKit Go.Proofs.Ytfhlnmgaammofaa.Q Go.Proofs.YtfhlnmgaammofaaW.PrintWords Go.Proofs.YtfhlnmgaammofaaW.PrintLast Go.Proofs.Ytfhlnmgaammofaa.R1

theorem joins_l (s : ByteArray) (hs : s.size ≤ 281474976710656) : ∀ (d : Nat) (k : Nat) (i : Int), 0 ≤ i → i ≤ s.size → 100 - i ≤ d → quipulaw11_CursorJoins.l0 (k + 2 * d + 60) s i = some true
  | d, k, i, h0, h1, hd => by
    have fin : ∀ m, 40 ≤ m → quipulaw11_CursorJoins.j2 (m + 1) s i false = some true := fun m hm => by
      rw [quipulaw11_CursorJoins.j2, if_neg (by simp), fixed_ev m hm]; rfl
    rw [show k + 2 * d + 60 = (k + 2 * d + 58) + 1 + 1 by omega, quipulaw11_CursorJoins.l0]
    by_cases a : i < s.size
    · rw [if_pos a]
      by_cases b : i < 100
      · rw [decide_eq_true b]
        obtain ⟨d, rfl⟩ : ∃ e, d = e + 1 := ⟨d - 1, by omega⟩
        have hr := runeS_range s i
        have ih := joins_l s hs d k (i + 1) (by omega) (by omega) (by omega)
        have e0 : wrap64 ((s.size : Int) - i) = s.size - i := wr _ (by omega) (by omega)
        have e1 : wrap64 (i + 1) = i + 1 := wr _ (by omega) (by omega)
        have e2 : wrap64 (i + runeS s i) = i + runeS s i := wr _ (by omega) (by omega)
        have ih' : quipulaw11_CursorJoins.l0 (k + 2 * (d + 1) + 58) s (wrap64 (i + 1)) = some true := by rw [e1, show k + 2 * (d + 1) + 58 = k + 2 * d + 60 by omega]; exact ih
        rw [quipulaw11_CursorJoins.j2, if_pos rfl, show k + 2 * (d + 1) + 58 = (k + 2 * (d + 1) + 53) + 5 by omega, curRune s i hs, Option.bind_some, if_neg (by omega), if_neg (by omega), e0]
        by_cases z : runeS s i = 0
        · rw [if_neg (by omega), if_neg (by omega)]; exact ih'
        · have hi := runeS_in s i z
          have hn := size_cut s i (runeS s i) (by omega) (by omega) (by omega)
          have hone : runesS (s.extract i.toNat (i + runeS s i).toNat) = 1 := by
            refine runesS_one _ ?_ (by omega)
            rw [runeS_cut s i (runeS s i) z (by omega) (by omega), if_pos rfl, hn]
          have hc := curRunes (s.extract i.toNat (i + runeS s i).toNat) (by omega) (k + 2 * (d + 1) + 53 - (s.extract i.toNat (i + runeS s i).toNat).size - 1)
          rw [show (s.extract i.toNat (i + runeS s i).toNat).size + 1 + (k + 2 * (d + 1) + 53 - (s.extract i.toNat (i + runeS s i).toNat).size - 1) + 5 = k + 2 * (d + 1) + 53 + 5 by omega, hone] at hc
          rw [if_neg (by omega), if_pos (by omega), if_pos (by omega), e2, if_pos (by omega), if_pos (by omega), hc, Option.bind_some, if_pos rfl]
          by_cases g : runeS s i > 1
          · have e3 : wrap64 (i + runeS s i - 1) = i + (runeS s i - 1) := by rw [wr _ (by omega) (by omega)]; omega
            have hz := runeS_cut s i (runeS s i - 1) z (by omega) (by omega)
            rw [if_neg (by omega)] at hz
            have hn2 := size_cut s i (runeS s i - 1) (by omega) (by omega) (by omega)
            rw [if_pos g, e3, if_pos (by omega), if_pos (by omega), curRune _ 0 (by omega), Option.bind_some, if_pos hz]
            exact ih'
          · rw [if_neg g]; exact ih'
      · rw [decide_eq_false b]; exact fin _ (by omega)
    · rw [if_neg a]; exact fin _ (by omega)

theorem CursorJoins : quipulaw11_CursorJoins.Pure := by
  intro a b ha hb
  have hs := size_app a b
  refine ⟨(a ++ b).size + 1 + 400 + 5, ?_⟩
  have ra : cursor_Runes.f ((a ++ b).size + 1 + 400 + 5) a = some (runesS a) := by
    have h := curRunes a (by omega) (b.size + 400)
    rwa [show a.size + 1 + (b.size + 400) + 5 = (a ++ b).size + 1 + 400 + 5 by omega] at h
  have rb : cursor_Runes.f ((a ++ b).size + 1 + 400 + 5) b = some (runesS b) := by
    have h := curRunes b (by omega) (a.size + 400)
    rwa [show b.size + 1 + (a.size + 400) + 5 = (a ++ b).size + 1 + 400 + 5 by omega] at h
  have hla := runesS_le a
  have hlb := runesS_le b
  have hj : quipulaw11_CursorJoins.j0 ((a ++ b).size + 1 + 400 + 5) a (decide (runesS a > (a.size : Int))) = some true := by
    rw [show (a ++ b).size + 1 + 400 + 5 = ((a ++ b).size + 145 + 2 * 100 + 60) + 1 by omega, quipulaw11_CursorJoins.j0, if_neg (by simp; omega)]
    exact joins_l a (by omega) 100 _ 0 (by omega) (by omega) (by omega)
  unfold quipulaw11_CursorJoins.f
  rw [ra, Option.bind_some, rb, Option.bind_some, if_pos (by omega), curRunes (a ++ b) (by omega) 400, Option.bind_some]
  by_cases h1 : runesS a ≥ 0
  · have happ := runesS_app a b h1
    rw [if_pos h1]
    by_cases h2 : runesS b ≥ 0
    · rw [if_pos h2] at happ ⊢
      rw [happ, wr (runesS a + runesS b) (by omega) (by omega), if_pos rfl, if_neg (by omega)]
      exact hj
    · rw [if_neg h2] at happ ⊢
      rw [happ, if_pos (by omega), if_pos rfl]
      exact hj
  · rw [if_neg h1]; exact hj
end Go.Proofs.Ytfhlnmgaammofaa.Pure
