/- The walk of CursorReads. -/
import Derived.Test.YtfhlnmgaammofaaC7
import Derived.Deep.RegionHeld3
namespace Go.Proofs.Ytfhlnmgaammofaa.R1
open Go.RowKit Go.Proofs.Ytfhlnmgaammofaa.Q Go.Proofs.YtfhlnmgaammofaaW.PrintWords Go.Proofs.YtfhlnmgaammofaaW.PrintLast Go.Proofs.YtfhlnmgaammofaaW.PrintMore
set_option linter.unusedVariables false
set_option linter.unusedSimpArgs false

set_option maxHeartbeats 8000000 in
set_option maxRecDepth 100000 in
theorem reads_any (s : ByteArray) (A1 : Option Addr) (c1 : Nat) (xs : List S41) (w : World) (hs : s.size ≤ 281474976710656) (hr1 : Kd.C k41 w A1 xs.length xs) (hx : xs.length ≤ 9223372036854775807) :
    Calls Try.prog 7 #[.string s, .slice A1 xs.length c1] w fun e w' => e = .returned (.bool true) ∧ Below w.heap.size w w' := by
  have HR := Aside0.mk hr1
  clear hr1
  go_enter Try.func7, Try.ntmps7
  go_wp2_with fail
  refine (cursor_New.calls s s 0 0 w _ (Below.refl _ _) rfl).mono ?_
  rintro en w1 ⟨g, rfl, hI1, hb1, _⟩
  have HI1 := Aside0.mk hI1
  have HB1 := Aside0.mk hb1
  have hz : w.heap.size ≤ w1.heap.size := hb1.size
  clear hI1 hb1
  go_wp2_with fail
  have HS := Aside0.mk (show St w (w1.alloc (.cells #[.string s, .int .i64 0, .int .i64 0] 45)) g w1.heap.size s 0 0 0 0 from ⟨IsS59.alloc HI1.out _, IsS45.new w w1 s 0 0 HB1.out, HB1.out.alloc HB1.out.size _⟩)
  clear HI1 HB1
  clear hz
  go_wp2
  go_loopg [7] xs.length (fun gk v7 wr => ∃ (i p e : Int), v7 = .int .i64 i ∧ Aside0 (0 ≤ i ∧ (xs.length : Int) - i = gk) ∧ Aside0 (0 ≤ p ∧ p ≤ s.size) ∧ Aside0 (St w wr g w1.heap.size s p e p e))
  case atStart => exact ⟨0, 0, 0, rfl, ⟨by omega⟩, ⟨by omega⟩, HS⟩
  case round =>
    clear HS
    obtain ⟨i, p, e, rfl, HI, HP0, HS0⟩ := hrel
    cases gk with
    | zero =>
      have hd : decide (i < (xs.length : Int)) = false := decide_eq_false (by have := HI.out; omega)
      go_wp2_with fail
      refine (quipulaw11_fixed.calls 40 true _ fixed40).mono ?_
      rintro en w2 ⟨rfl, hb⟩
      have HB := Aside0.mk (HS0.out.2.2.trans (hb.mono HS0.out.2.2.size))
      clear hb HS0
      go_wp2
      go_ret
      exact ⟨rfl, HB.out⟩
    | succ gk' =>
      have hd : decide (i < (xs.length : Int)) = true := decide_eq_true (by have := HI.out; omega)
      have hi0 : 0 ≤ i := HI.out.1
      have hi1 : i < (xs.length : Int) := by have := HI.out; omega
      obtain ⟨ad0, hA0, _, hcw⟩ := at_T41 HR.out i hi0 hi1
      obtain ⟨ad, rfl, hk0, hm0⟩ := at_T41 (Kd.C_below HR.out HS0.out.2.2) i hi0 hi1
      obtain rfl : ad = ad0 := by injection hA0
      clear hA0
      have e1 : wrap64 (i + 1) = i + 1 := R1.wr _ (by omega) (by omega)
      obtain ⟨K, hK⟩ : ∃ K, (rd_T41 xs i).f0 = K := ⟨_, rfl⟩
      rw [hK] at hk0
      clear hK
      by_cases k0 : K = 0
      · subst k0
        go_wp2_with fail
        refine (st_get8 HS0.out hs HP0.out.1 HP0.out.2).mono ?_
        rintro en w1 ⟨rfl, hS1⟩
        have HS1 := Aside0.mk hS1
        clear hS1 HS0
        go_wp2_with fail
        refine (st_rget HS1.out hs HP0.out.1 HP0.out.2 1 (by omega)).mono ?_
        rintro en w2 ⟨rfl, hS2⟩
        have HS := Aside0.mk hS2
        have HP := Aside0.mk (getS_in 1 s p e HP0.out.1 HP0.out.2)
        clear hS2 HS1 HP0

        -- behind the read: the faults, the ends, the test
        go_wp2_with fail
        refine (st_fault HS.out).mono ?_
        rintro en w3 ⟨rfl, hS3⟩
        have HS3 := Aside0.mk hS3
        clear hS3 HS
        go_wp2_with fail
        refine (st_rfault HS3.out).mono ?_
        rintro en w4 ⟨rfl, hS4⟩
        have HS4 := Aside0.mk hS4
        clear hS4 HS3
        go_wp2_with fail
        refine (st_end HS4.out HP.out.2).mono ?_
        rintro en w5 ⟨rfl, hS5⟩
        have HS5 := Aside0.mk hS5
        clear hS5 HS4
        go_wp2_with fail
        refine (st_rend HS5.out).mono ?_
        rintro en w6 ⟨rfl, hS6⟩
        have HS6 := Aside0.mk hS6
        have hg1 := cellS59_1 hS6.1.1
        have hx1 := cellS45_1 hS6.2.1.1
        clear hS6 HS5
        go_wp2
        go_quiet ((go_at_call 22; exact Calls.quiet_of_same (st_at _ _ _ (by simpa using hg1))))
        go_wp2
        go_roundg gk'
        case measure => omega
        case rel => exact ⟨i + 1, (getS 1 s p e).2.2.1, (getS 1 s p e).2.2.2, by first | rfl | (rw [e1]) | go_num, ⟨by have := HI.out; omega⟩, HP, ⟨by first | exact HS6.out | exact ⟨IsS59.drewN HS6.out.1 _, IsS45.drewN HS6.out.2.1 _, pw_below_drewN HS6.out.2.2 _⟩⟩⟩
      · have hk0' : (K == 0) = false := beq_eq_false_iff_ne.mpr k0
        by_cases k1 : K = 1
        · subst k1
          clear hk0'
          go_wp2_with fail
          refine (st_get16 HS0.out hs HP0.out.1 HP0.out.2).mono ?_
          rintro en w1 ⟨rfl, hS1⟩
          have HS1 := Aside0.mk hS1
          clear hS1 HS0
          go_wp2_with fail
          refine (st_rget HS1.out hs HP0.out.1 HP0.out.2 2 (by omega)).mono ?_
          rintro en w2 ⟨rfl, hS2⟩
          have HS := Aside0.mk hS2
          have HP := Aside0.mk (getS_in 2 s p e HP0.out.1 HP0.out.2)
          clear hS2 HS1 HP0

          -- behind the read: the faults, the ends, the test
          go_wp2_with fail
          refine (st_fault HS.out).mono ?_
          rintro en w3 ⟨rfl, hS3⟩
          have HS3 := Aside0.mk hS3
          clear hS3 HS
          go_wp2_with fail
          refine (st_rfault HS3.out).mono ?_
          rintro en w4 ⟨rfl, hS4⟩
          have HS4 := Aside0.mk hS4
          clear hS4 HS3
          go_wp2_with fail
          refine (st_end HS4.out HP.out.2).mono ?_
          rintro en w5 ⟨rfl, hS5⟩
          have HS5 := Aside0.mk hS5
          clear hS5 HS4
          go_wp2_with fail
          refine (st_rend HS5.out).mono ?_
          rintro en w6 ⟨rfl, hS6⟩
          have HS6 := Aside0.mk hS6
          have hg1 := cellS59_1 hS6.1.1
          have hx1 := cellS45_1 hS6.2.1.1
          clear hS6 HS5
          go_wp2
          go_quiet ((go_at_call 22; exact Calls.quiet_of_same (st_at _ _ _ (by simpa using hg1))))
          go_wp2
          go_roundg gk'
          case measure => omega
          case rel => exact ⟨i + 1, (getS 2 s p e).2.2.1, (getS 2 s p e).2.2.2, by first | rfl | (rw [e1]) | go_num, ⟨by have := HI.out; omega⟩, HP, ⟨by first | exact HS6.out | exact ⟨IsS59.drewN HS6.out.1 _, IsS45.drewN HS6.out.2.1 _, pw_below_drewN HS6.out.2.2 _⟩⟩⟩
        · have hk1' : (K == 1) = false := beq_eq_false_iff_ne.mpr k1
          by_cases k2 : K = 2
          · subst k2
            clear hk0' hk1'
            go_wp2_with fail
            refine (st_get32 HS0.out hs HP0.out.1 HP0.out.2).mono ?_
            rintro en w1 ⟨rfl, hS1⟩
            have HS1 := Aside0.mk hS1
            clear hS1 HS0
            go_wp2_with fail
            refine (st_rget HS1.out hs HP0.out.1 HP0.out.2 4 (by omega)).mono ?_
            rintro en w2 ⟨rfl, hS2⟩
            have HS := Aside0.mk hS2
            have HP := Aside0.mk (getS_in 4 s p e HP0.out.1 HP0.out.2)
            clear hS2 HS1 HP0

            -- behind the read: the faults, the ends, the test
            go_wp2_with fail
            refine (st_fault HS.out).mono ?_
            rintro en w3 ⟨rfl, hS3⟩
            have HS3 := Aside0.mk hS3
            clear hS3 HS
            go_wp2_with fail
            refine (st_rfault HS3.out).mono ?_
            rintro en w4 ⟨rfl, hS4⟩
            have HS4 := Aside0.mk hS4
            clear hS4 HS3
            go_wp2_with fail
            refine (st_end HS4.out HP.out.2).mono ?_
            rintro en w5 ⟨rfl, hS5⟩
            have HS5 := Aside0.mk hS5
            clear hS5 HS4
            go_wp2_with fail
            refine (st_rend HS5.out).mono ?_
            rintro en w6 ⟨rfl, hS6⟩
            have HS6 := Aside0.mk hS6
            have hg1 := cellS59_1 hS6.1.1
            have hx1 := cellS45_1 hS6.2.1.1
            clear hS6 HS5
            go_wp2
            go_quiet ((go_at_call 22; exact Calls.quiet_of_same (st_at _ _ _ (by simpa using hg1))))
            go_wp2
            go_roundg gk'
            case measure => omega
            case rel => exact ⟨i + 1, (getS 4 s p e).2.2.1, (getS 4 s p e).2.2.2, by first | rfl | (rw [e1]) | go_num, ⟨by have := HI.out; omega⟩, HP, ⟨by first | exact HS6.out | exact ⟨IsS59.drewN HS6.out.1 _, IsS45.drewN HS6.out.2.1 _, pw_below_drewN HS6.out.2.2 _⟩⟩⟩
          · have hk2' : (K == 2) = false := beq_eq_false_iff_ne.mpr k2
            by_cases k3 : K = 3
            · subst k3
              clear hk0' hk1' hk2'
              obtain ⟨M, hM⟩ : ∃ M, (rd_T41 xs i).f1 = M := ⟨_, rfl⟩
              have HC := Aside0.mk hcw
              rw [hM] at hm0 HC
              clear hM hcw
              have HPT := Aside0.mk (textS_in s p e M HP0.out.1 HP0.out.2)
              have hin0 := eq_true hi0
              have hin1 := eq_true hi1
              go_wp2
              go_region_held3 (fun w' => w'.cell? ⟨(ad.add (i.toNat * 2)).block, (ad.add (i.toNat * 2)).off + 1, none⟩ = some (.int .i64 M)) (first | exact pw_cell_below HS2.out.2.2 HC.out | exact pw_cell_below HS1.out.2.2 HC.out | exact hm0 | (simpa using hm0)) (first | (go_at_call 27; refine (st_text (g := g) (x := w1.heap.size) (w0 := w) (q := p) (f := e) (p := p) (e := e) (s := s) ?_ hs HP0.out.1 HP0.out.2 M).mono ?_; (first | exact HS0.out | exact ⟨IsS59.drewN HS0.out.1 _, IsS45.drewN HS0.out.2.1 _, pw_below_drewN HS0.out.2.2 _⟩); rintro en w2 ⟨rfl, hS1, hk1⟩; have HS1 := Aside0.mk hS1; clear hS1 hk1) | (go_at_call 29; refine (st_rtext HS1.out hs HP0.out.1 HP0.out.2 M).mono ?_; rintro en w3 ⟨rfl, hS2, hk2⟩; have HS2 := Aside0.mk hS2; clear hS2 hk2))
              have HS := HS2
              have HP := HPT
              clear HS2 HPT HS0 HP0 HC hm0

              -- behind the read: the faults, the ends, the test
              go_wp2_with fail
              refine (st_fault HS.out).mono ?_
              rintro en w3 ⟨rfl, hS3⟩
              have HS3 := Aside0.mk hS3
              clear hS3 HS
              go_wp2_with fail
              refine (st_rfault HS3.out).mono ?_
              rintro en w4 ⟨rfl, hS4⟩
              have HS4 := Aside0.mk hS4
              clear hS4 HS3
              go_wp2_with fail
              refine (st_end HS4.out HP.out.2).mono ?_
              rintro en w5 ⟨rfl, hS5⟩
              have HS5 := Aside0.mk hS5
              clear hS5 HS4
              go_wp2_with fail
              refine (st_rend HS5.out).mono ?_
              rintro en w6 ⟨rfl, hS6⟩
              have HS6 := Aside0.mk hS6
              have hg1 := cellS59_1 hS6.1.1
              have hx1 := cellS45_1 hS6.2.1.1
              clear hS6 HS5
              go_wp2
              go_quiet ((go_at_call 22; exact Calls.quiet_of_same (st_at _ _ _ (by simpa using hg1))))
              go_wp2
              go_roundg gk'
              case measure => omega
              case rel => exact ⟨i + 1, (textS s p e M).2.2.1, (textS s p e M).2.2.2, by first | rfl | (rw [e1]) | go_num, ⟨by have := HI.out; omega⟩, HP, ⟨by first | exact HS6.out | exact ⟨IsS59.drewN HS6.out.1 _, IsS45.drewN HS6.out.2.1 _, pw_below_drewN HS6.out.2.2 _⟩⟩⟩
            · have hk3' : (K == 3) = false := beq_eq_false_iff_ne.mpr k3
              clear k0 k1 k2 k3
              have HS := HS0
              have HP := HP0
              clear HS0 HP0

              -- behind the read: the faults, the ends, the test
              go_wp2_with fail
              refine (st_fault HS.out).mono ?_
              rintro en w3 ⟨rfl, hS3⟩
              have HS3 := Aside0.mk hS3
              clear hS3 HS
              go_wp2_with fail
              refine (st_rfault HS3.out).mono ?_
              rintro en w4 ⟨rfl, hS4⟩
              have HS4 := Aside0.mk hS4
              clear hS4 HS3
              go_wp2_with fail
              refine (st_end HS4.out HP.out.2).mono ?_
              rintro en w5 ⟨rfl, hS5⟩
              have HS5 := Aside0.mk hS5
              clear hS5 HS4
              go_wp2_with fail
              refine (st_rend HS5.out).mono ?_
              rintro en w6 ⟨rfl, hS6⟩
              have HS6 := Aside0.mk hS6
              have hg1 := cellS59_1 hS6.1.1
              have hx1 := cellS45_1 hS6.2.1.1
              clear hS6 HS5
              go_wp2
              go_quiet ((go_at_call 22; exact Calls.quiet_of_same (st_at _ _ _ (by simpa using hg1))))
              go_wp2
              go_roundg gk'
              case measure => omega
              case rel => exact ⟨i + 1, p, e, by first | rfl | (rw [e1]) | go_num, ⟨by have := HI.out; omega⟩, HP, ⟨by first | exact HS6.out | exact ⟨IsS59.drewN HS6.out.1 _, IsS45.drewN HS6.out.2.1 _, pw_below_drewN HS6.out.2.2 _⟩⟩⟩
end Go.Proofs.Ytfhlnmgaammofaa.R1
