-- printed by a program of this session (wip/tools/print2.sh) after the kit's print
import Derived.Test.YtfaknblpkegekaaQx0
import Derived.Test.YtfaknblpkegekaaQx1
import Derived.Test.YtfaknblpkegekaaQx2
import Derived.Test.YtfaknblpkegekaaQx3
import Derived.Test.YtfaknblpkegekaaTrimx
namespace Go.Proofs.Ytfaknblpkegekaa.Q
open Go.RowKit Go.Proofs.YtfaknblpkegekaaW.PrintWords Go.Proofs.YtfaknblpkegekaaW.PrintLast Go.Proofs.YtfaknblpkegekaaW.PrintMore
attribute [local go_sem] max2_int min2_int max_two min_two max_three min_three max_four min_four   -- for this text's walks alone
set_option linter.unusedVariables false
set_option linter.unusedSimpArgs false

theorem R_prefix {w : World} {base : Nat} {ok : Nat → Prop} {A : Option Addr} {n c : Nat} {xs r : List Int} (h : Kd.R (Kd.int .u64) 46 w base ok (.slice A n c) xs) (hp : r = xs.take r.length) : Kd.R (Kd.int .u64) 46 w base ok (.slice A r.length c) r := by
  have hl : r.length ≤ xs.length := by
    have := congrArg List.length hp
    rw [List.length_take] at this
    omega
  have h2 := Kd.R_take (m := r.length) h hl
  rw [← hp] at h2
  exact h2
set_option maxHeartbeats 8000000 in
set_option maxRecDepth 100000 in
theorem shl_own (A0 : Option Addr) (c0 : Nat) (l0 : List Int) (a1 : Int) (r1 : List Int) (r2 : Int) (w : World) (hr0 : Kd.C (Kd.int .u64) w A0 l0.length l0) (hc0 : l0.length ≤ c0) (h : nat_Shl.f l0 a1 = some (r1, r2)) :
    Calls Try.prog 27 #[.slice A0 l0.length c0, .int .i64 a1] w fun e w' => ∃ v0_ : Value, e = .returned (.tuple #[v0_, .int .i64 r2]) ∧ Kd.R (Kd.int .u64) 46 w' w.heap.size (fun k_ => (w.heap.size ≤ k_)) v0_ r1 ∧ Below w.heap.size w w' := by
  unfold nat_Shl.f at h
  by_cases hw : wfs l0 = true
  case neg => rw [if_neg hw] at h; exact absurd h (by simp)
  rw [if_pos hw] at h
  have hwf := wfs_out hw
  have HB := Aside0.mk (Below.refl w.heap.size w)
  by_cases c1 : a1 < 0
  · rw [if_pos (Or.inl c1)] at h
    simp only [Option.some.injEq, Prod.mk.injEq] at h
    obtain ⟨rfl, rfl⟩ := h
    have c1b : decide (a1 < 0) = true := decide_eq_true c1
    go_enter Try.func27, Try.ntmps27
    go_wp2
    go_ret2
    exact ⟨_, rfl, Kd.R_nil _ _ _ _ _, (by repeat (first | (with_reducible first | exact HB.out | apply below_alloc | apply pw_below_drewN | apply below_drew1) | exact HB.out))⟩
  have c1b : decide (a1 < 0) = false := decide_eq_false c1
  by_cases c2 : 65536 < a1
  · rw [if_pos (Or.inr c2)] at h
    simp only [Option.some.injEq, Prod.mk.injEq] at h
    obtain ⟨rfl, rfl⟩ := h
    have c2b : decide (65536 < a1) = true := decide_eq_true c2
    go_enter Try.func27, Try.ntmps27
    go_wp2
    go_ret2
    exact ⟨_, rfl, Kd.R_nil _ _ _ _ _, (by repeat (first | (with_reducible first | exact HB.out | apply below_alloc | apply pw_below_drewN | apply below_drew1) | exact HB.out))⟩
  have c2b : decide (65536 < a1) = false := decide_eq_false c2
  rw [if_neg (by omega)] at h
  simp only [Option.some.injEq, Prod.mk.injEq] at h
  obtain ⟨rfl, rfl⟩ := h
  obtain ⟨n, rfl⟩ : ∃ n : Nat, a1 = n := ⟨a1.toNat, by omega⟩
  obtain ⟨q, hqn⟩ : ∃ q : Nat, q = n / 64 := ⟨_, rfl⟩
  obtain ⟨s, hsn⟩ : ∃ s : Int, Int.tmod (n : Int) 64 = s := ⟨_, rfl⟩
  have hs0 : s = ((n % 64 : Nat) : Int) := by rw [← hsn, Int.tmod_eq_emod_of_nonneg (by omega)]; omega
  have hq : (n : Int) / 64 = (q : Int) := by omega
  have hs3 : (n : Int) % 64 = s := by omega
  obtain ⟨m, hm⟩ : ∃ m : Nat, wrap64 ((q : Int) + l0.length) = (m : Int) ∧ m = q + l0.length := ⟨q + l0.length, by have := hwf.2; unfold wrap64; omega, rfl⟩
  obtain ⟨c, hc⟩ : ∃ c : Nat, wrap64 ((m : Int) + 1) = (c : Int) ∧ c = q + l0.length + 1 := ⟨q + l0.length + 1, by have := hwf.2; have := hm.2; unfold wrap64; omega, rfl⟩
  have hm1 := hm.1
  have hc1 := hc.1
  have hmk := fun u => make_cap u q c (by have := hc.2; omega) (by have := hc.2; have := hwf.2; omega)
  have HM := Aside0.mk (show q = n / 64 ∧ s = ((n % 64 : Nat) : Int) ∧ n ≤ 65536 ∧ l0.length ≤ 17592186043904 ∧ c = q + l0.length + 1 from ⟨hqn, hs0, by omega, hwf.2, hc.2⟩)
  have HR0 := Aside0.mk hr0
  have HL := Aside0.mk hwf.1
  have hs1 := eq_true (show 0 ≤ s by omega)
  have hs2 : s ≤ 64 := by omega
  obtain ⟨t, ht⟩ : ∃ t : Int, wrap64 (63 - s) = t := ⟨_, rfl⟩
  have ht0 : t = 63 - s := by rw [← ht]; unfold wrap64; omega
  have HT := Aside0.mk ht0
  have ht1 := eq_true (show 0 ≤ t by omega)
  have ht2 : t ≤ 64 := by omega
  clear hqn hs0 hwf hw hr0 ht0 hc hm
  go_enter Try.func27, Try.ntmps27
  go_wp2
  have HO := Aside0.mk (make_cap_R w w.heap.size q c (by have := HM.out; omega) (by have := HM.out; omega) (Nat.le_refl _))
  have HB2 := Aside0.mk (below_alloc HB.out (.cells (madeCells #[.int .u64 0] c) 46))
  clear HB
  have HB := HB2
  clear HB2 hmk
  go_loopg [6, 7, 9, 27] l0.length (fun gk v6 v7 v9 v27 wr => ∃ (xs : List Int) (cr i : Nat), v7 = .int .u64 cr ∧ v27 = .int .i64 i ∧ Aside0 ((i : Int) + gk = l0.length ∧ xs.length = q + i ∧ cr < 2 ^ (n % 64)) ∧ Aside0 (Lim xs) ∧ Aside0 (val xs + 18446744073709551616 ^ (q + i) * cr = val (l0.take i) * 2 ^ (64 * q + n % 64)) ∧ Aside0 (Kd.R (Kd.int .u64) 46 wr w.heap.size (fun k_ => (w.heap.size ≤ k_)) v6 xs) ∧ Aside0 (Below w.heap.size w wr))
  case atStart => exact ⟨List.replicate q 0, 0, 0, rfl, rfl, ⟨by refine ⟨by omega, by simp, Nat.two_pow_pos _⟩⟩, ⟨lim_zeros q⟩, ⟨by simp [val_zeros, val]⟩, ⟨by first | exact HO.out | exact (by (with_reducible repeat (first | apply Kd.R_alloc | apply Kd.R_drewN | apply Kd.R_drew)); exact HO.out)⟩, ⟨(by repeat (first | (with_reducible first | exact HB.out | apply below_alloc | apply pw_below_drewN | apply below_drew1) | exact HB.out))⟩⟩
  case round =>
    clear HO HB
    obtain ⟨xs, cr, i, rfl, rfl, HI, HX, HV, HO, HB⟩ := hrel
    cases gk with
    | zero =>
      have hin_ : i = l0.length := by have := HI.out; omega
      have hd : decide ((i : Int) < (l0.length : Int)) = false := decide_eq_false (by omega)
      have hd2 : decide (i < l0.length) = false := decide_eq_false (by omega)
      have hcr : (0 : Int) ≤ cr ∧ (cr : Int) < 18446744073709551616 := by
        have h1 := HI.out.2.2
        have h2 : 2 ^ (n % 64) ≤ 2 ^ 64 := Nat.pow_le_pow_right (by decide) (by omega)
        have h3 : (2 : Nat) ^ 64 = 18446744073709551616 := by decide
        omega
      have htr := trim_eq (xs ++ [(cr : Int)]).length (xs ++ [(cr : Int)]) rfl (HX.out.app (Lim.one hcr.1 hcr.2)) (by rw [List.length_append]; simp; have := HI.out; have := HM.out; omega) 0
      rw [val_app, val_one, HI.out.2.1, Int.toNat_natCast, HV.out, hin_, List.take_length, show 64 * q + n % 64 = n by have := HM.out; omega] at htr
      have HTR := Aside0.mk htr
      clear htr hcr
      go_wp2_with (first | ((with_reducible refine gate_builtin (b := .append) (xs := #[.tmp 47, .tmp 49]) rfl ?_); at_builtin; refine R_append_big (kd := .u64) (w0 := w) w.heap.size rfl (.tmp 47) (.tmp 49) 22 46 (.int .u64 0) 8 rfl Try.underlying22 info46 rfl (by omega) (by omega) u6 xs ((cr : Int)) (fun k_ => (w.heap.size ≤ k_)) rfl rfl ?aF ?aO ?aB ?aS ?aL ?_; (case aB => exact (by repeat (first | (with_reducible first | exact HB.out | apply below_alloc | apply pw_below_drewN | apply below_drew1) | exact HB.out))); (case aF => exact (fun k_ hk => (Nat.le_trans (below_size (by repeat (first | (with_reducible first | exact HB.out | apply below_alloc | apply pw_below_drewN | apply below_drew1) | exact HB.out))) hk))); (case aO => exact (by (with_reducible repeat (first | apply Kd.R_alloc | apply Kd.R_drewN | apply Kd.R_drew)); exact HO.out)); (case aS => exact (below_size (by repeat (first | (with_reducible first | exact HB.out | apply below_alloc | apply pw_below_drewN | apply below_drew1) | exact HB.out)))); (case aL => have := HI.out; have := HM.out; omega); intro v120 w12 ho hb hg hat; have n0_ := Aside0.mk (hb); have n1_ := Aside0.mk (ho); clear HB; clear HO; have HB := n0_; have HO := n1_; clear n0_ n1_; clear ho hb hg hat) | ((with_reducible refine gate_callee (f := 43) rfl ?_); refine goesL_ (some 51) rfl rfl Try.func43 (by kernel_rfl) rfl #[v120] rfl (by (try simp only [List.map_toArray, List.map_cons, List.map_nil]); first | done | rfl) ?_; obtain ⟨Ao, co, eo⟩ := Kd.R_slice HO.out; subst eo; (with_reducible refine (trim_exact _ (fun k_ => some k_ = (.slice Ao (xs ++ [(cr : Int)]).length co : Value).ownBlock) _ _ (xs ++ [(cr : Int)]) _ _ ?side1 HTR.out).mono ?_); (case side1 => exact Kd.R_V (Kd.R_tight rfl (by (with_reducible repeat (first | apply Kd.R_alloc | apply Kd.R_drewN | apply Kd.R_drew)); exact HO.out))); rintro e w30 ⟨rfl, hpre, hb⟩; refine ⟨_, rfl, ?_⟩; have n1_ := Aside0.mk (Kd.R_below (R_prefix (xs := xs ++ [(cr : Int)]) (by (with_reducible repeat (first | apply Kd.R_alloc | apply Kd.R_drewN | apply Kd.R_drew)); exact HO.out) hpre) hb); have n2_ := Aside0.mk (below_step (by repeat (first | (with_reducible first | exact HB.out | apply below_alloc | apply pw_below_drewN | apply below_drew1) | exact HB.out)) hb); clear HO; clear HB; have HO152 := n1_; have HB := n2_; clear n1_ n2_; (try clear hb); (try clear hpre)))
      go_ret2
      exact ⟨_, rfl, by (with_reducible repeat (first | apply Kd.R_alloc | apply Kd.R_drewN | apply Kd.R_drew)); exact HO152.out, (by repeat (first | (with_reducible first | exact HB.out | apply below_alloc | apply pw_below_drewN | apply below_drew1) | exact HB.out))⟩
    | succ gk' =>
      have hd : decide ((i : Int) < (l0.length : Int)) = true := decide_eq_true (by have := HI.out; omega)
      have hd2 : decide (i < l0.length) = true := decide_eq_true (by have := HI.out; omega)
      have p1 : 0 ≤ (i : Int) := by omega
      have q1 : (i : Int) < (l0.length : Int) := by have := HI.out; omega
      obtain ⟨ad1, e1, hm1_⟩ := Kd.at_int HR0.out i p1 q1
      cases e1
      replace hm1_ := (HB.out.cell (World.block_lt_of_cell? w _ hm1_)).trans hm1_
      have hxl : 0 ≤ rd l0 i ∧ rd l0 i < 18446744073709551616 := HL.out.getD i
      obtain ⟨x, hx⟩ : ∃ x : Nat, rd l0 i = x := ⟨(rd l0 i).toNat, by omega⟩
      rw [hx] at hm1_ hxl
      rw [Int.toNat_natCast] at hm1_
      replace p1 := eq_true p1
      replace q1 := eq_true q1
      have hst := s_nat s n HM.out.2.1
      have HST := Aside0.mk hst
      clear hst
      have HE := Aside0.mk (shl_or x cr (n % 64) (by omega) (by omega) HI.out.2.2)
      have HE1 := Aside0.mk (show Go.bits .or .u64 (IntKind.u64.wrap ((x : Int) * 2 ^ s.toNat)) (cr : Int) = ((x % 2 ^ (64 - n % 64) * 2 ^ (n % 64) + cr : Nat) : Int) by rw [HST.out]; exact HE.out.1)
      have HV1 := Aside0.mk (shl_step l0 xs q i (n % 64) cr HI.out.2.1 (by omega) HL.out HV.out)
      have hgx : (l0.getD i 0).toNat = x := by have : l0.getD i 0 = rd l0 i := rfl; rw [this, hx]; rfl
      have HV2 := Aside0.mk (hgx ▸ HV1.out)
      have HHI := Aside0.mk (shl_hi_lt x (n % 64) (by omega) (by omega))
      have HH := Aside0.mk (shl_hi x (n % 64) (by omega))
      have HT2 := Aside0.mk (show (63 - s).toNat = 63 - n % 64 by have := HM.out; omega)
      clear hgx HV1 hx
      go_wp2_with (first | ((with_reducible refine gate_builtin (b := .append) (xs := #[.tmp 31, .tmp 38]) rfl ?_); at_builtin; refine R_append_big (kd := .u64) (w0 := w) w.heap.size rfl (.tmp 31) (.tmp 38) 22 46 (.int .u64 0) 8 rfl Try.underlying22 info46 rfl (by omega) (by omega) u6 xs (Go.bits .or .u64 (IntKind.u64.wrap ((x : Int) * 2 ^ s.toNat)) (cr : Int)) (fun k_ => (w.heap.size ≤ k_)) rfl rfl ?aF ?aO ?aB ?aS ?aL ?_; (case aB => exact (by repeat (first | (with_reducible first | exact HB.out | apply below_alloc | apply pw_below_drewN | apply below_drew1) | exact HB.out))); (case aF => exact (fun k_ hk => (Nat.le_trans (below_size (by repeat (first | (with_reducible first | exact HB.out | apply below_alloc | apply pw_below_drewN | apply below_drew1) | exact HB.out))) hk))); (case aO => exact (by (with_reducible repeat (first | apply Kd.R_alloc | apply Kd.R_drewN | apply Kd.R_drew)); exact HO.out)); (case aS => exact (below_size (by repeat (first | (with_reducible first | exact HB.out | apply below_alloc | apply pw_below_drewN | apply below_drew1) | exact HB.out)))); (case aL => have := HI.out; have := HM.out; omega); intro v120 w12 ho hb hg hat; have n0_ := Aside0.mk (hb); have n1_ := Aside0.mk (ho); clear HB; clear HO; have HB := n0_; have HO := n1_; clear n0_ n1_; clear ho hb hg hat))
      rw [HE1.out] at HO
      go_roundg gk'
      case measure => omega
      case rel => exact ⟨xs ++ [((x % 2 ^ (64 - n % 64) * 2 ^ (n % 64) + cr : Nat) : Int)], x / 2 ^ (64 - n % 64), i + 1, by first | (with_reducible rfl) | (rw [HT2.out, ← HH.out, Int.natCast_ediv, Int.natCast_ediv, Int.natCast_pow]; rfl), by first | (with_reducible rfl) | (have := HI.out; have := HM.out; congr 1; unfold wrap64; omega), ⟨by have := HI.out; refine ⟨by omega, by rw [List.length_append]; simp; omega, HHI.out⟩⟩, ⟨HX.out.app (Lim.one (by omega) (by have := HE.out.2; omega))⟩, ⟨HV2.out⟩, ⟨(by (with_reducible repeat (first | apply Kd.R_alloc | apply Kd.R_drewN | apply Kd.R_drew)); exact HO.out)⟩, ⟨(by repeat (first | (with_reducible first | exact HB.out | apply below_alloc | apply pw_below_drewN | apply below_drew1) | exact HB.out))⟩⟩

end Go.Proofs.Ytfaknblpkegekaa.Q
