/- nat.DivMod where the divisor has two limbs or more and isn't greater. -/
import Derived.Test.YtfaknblpkegekaaDg
import Derived.Test.YtfaknblpkegekaaDs
import Derived.Test.YtfaknblpkegekaaDe
import Derived.Test.YtfaknblpkegekaaNat17
namespace Go.Proofs.Ytfaknblpkegekaa.Q
open Go.RowKit Go.Proofs.YtfaknblpkegekaaW.PrintWords Go.Proofs.YtfaknblpkegekaaW.PrintLast Go.Proofs.YtfaknblpkegekaaW.PrintMore
attribute [local go_sem] max2_int min2_int max_two min_two max_three min_three max_four min_four   -- for this text's walks alone
set_option linter.unusedVariables false
set_option linter.unusedSimpArgs false
set_option maxHeartbeats 8000000 in
set_option maxRecDepth 100000 in
theorem DivMod_long (A0 : Option Addr) (c0 : Nat) (l0 : List Int) (A1 : Option Addr) (c1 : Nat) (l1 : List Int) (w : World) (hr0 : Kd.C (Kd.int .u64) w A0 l0.length l0) (hc0 : l0.length ≤ c0) (hr1 : Kd.C (Kd.int .u64) w A1 l1.length l1) (hc1 : l1.length ≤ c1)
    (hL0 : Lim l0) (hL1 : Lim l1) (hn0 : l0.length ≤ 17592186043904) (hn1 : l1.length ≤ 17592186043904) (hm : 2 ≤ (limbs (val l1)).length) (hge : val l1 ≤ val l0) :
    Calls Try.prog 25 #[.slice A0 l0.length c0, .slice A1 l1.length c1] w fun e w' => ∃ v0_ v1_ : Value, e = .returned (.tuple #[v0_, v1_, .int .i64 0]) ∧ Kd.V (Kd.int .u64) 46 w' w.heap.size (fun k_ => (w.heap.size ≤ k_)) v0_ (limbs (val l0 / val l1)) ∧ Kd.V (Kd.int .u64) 46 w' w.heap.size (fun k_ => (w.heap.size ≤ k_)) v1_ (limbs (val l0 % val l1)) ∧ Below w.heap.size w w' := by
  have HT0 := Aside0.mk (trim_eq l0.length l0 rfl hL0 (by omega) 0)
  have HT1 := Aside0.mk (trim_eq l1.length l1 rfl hL1 (by omega) 0)
  have hq0 := limbs_prefix l0 hL0
  have hq1 := limbs_prefix l1 hL1
  have hle0 := limbs_le l0 hL0
  have hle1 := limbs_le l1 hL1
  have hcm := cmp_ge (limbs (val l0)) (limbs (val l1)) (limbs_lim _) (limbs_lim _) (by omega) (by omega) _ (Nat.le_refl _)
  rw [limbs_val, limbs_val] at hcm
  have HCMP := Aside0.mk hcm
  have hcn : decide (cmpN (val l0) (val l1) < 0) = false := decide_eq_false (by unfold cmpN; rw [if_neg (by omega)]; split <;> omega)
  obtain ⟨n, un, tp, vs, us, P⟩ := div_prep (val l0) (val l1) (limbs (val l0)).length (limbs (val l1)).length (by omega) (by omega) rfl rfl hm hge
  obtain ⟨a, ha⟩ : ∃ a, limbs (val l0) = a := ⟨_, rfl⟩
  obtain ⟨b, hb⟩ : ∃ b, limbs (val l1) = b := ⟨_, rfl⟩
  rw [ha] at HT0 hq0 hle0 HCMP P
  rw [hb] at HT1 hq1 hle1 HCMP P hm
  have HA := Aside0.mk (show Kd.C (Kd.int .u64) w A0 a.length a by have h := Kd.C_take (m := a.length) hr0 hle0; rw [← hq0] at h; exact h)
  have HD := Aside0.mk (show Kd.C (Kd.int .u64) w A1 b.length b by have h := Kd.C_take (m := b.length) hr1 hle1; rw [← hq1] at h; exact h)
  have HCA := Aside0.mk (show a.length ≤ c0 by omega)
  have HCD := Aside0.mk (show b.length ≤ c1 by omega)
  have HR0 := Aside0.mk hr0
  have HR1 := Aside0.mk hr1
  have HC0 := Aside0.mk hc0
  have HC1 := Aside0.mk hc1
  have HM := Aside0.mk (show 2 ≤ b.length ∧ b.length ≤ 17592186043904 ∧ a.length ≤ 17592186043904 from ⟨hm, by omega, by omega⟩)
  have HP := Aside0.mk P
  have HLZ := Aside0.mk P.lz
  have HSV := Aside0.mk P.shv
  have HSU := Aside0.mk P.shu
  have hlm : wrap64 ((b.length : Int) - 1) = ((b.length - 1 : Nat) : Int) := by unfold wrap64; omega
  have hbl0 : ((b.length : Int) == 0) = false := beq_eq_false_iff_ne.mpr (by omega)
  have hbl1 : ((b.length : Int) == 1) = false := beq_eq_false_iff_ne.mpr (by omega)
  have hbl2 : ¬ b = [] := fun h_ => by rw [h_] at hm; simp at hm
  have p1 : (0 : Int) ≤ ((b.length - 1 : Nat) : Int) := by omega
  have q1 : ((b.length - 1 : Nat) : Int) < (b.length : Int) := by omega
  obtain ⟨ad1, e1, hx1⟩ := Kd.at_int HD.out ((b.length - 1 : Nat) : Int) p1 q1
  cases e1
  rw [Int.toNat_natCast, P.top] at hx1
  have HX1 := Aside0.mk hx1
  replace p1 := eq_true p1
  replace q1 := eq_true q1
  clear hr0 hc0 hr1 hc1 hL0 hL1 hn0 hn1 hcm hq0 hq1 hle0 hle1 hge P hx1
  have HB := Aside0.mk (Below.refl w.heap.size w)
  go_enter Try.func25, Try.ntmps25
  go_wp2_with (first | ((with_reducible refine gate_callee (f := 43) rfl ?_); refine goesL_ (some 20) rfl rfl Try.func43 (by kernel_rfl) rfl #[.slice A0 l0.length c0] rfl (by (try simp only [List.map_toArray, List.map_cons, List.map_nil]); first | done | rfl) ?_; (with_reducible refine (trim_exact _ (fun k_ => k_ < w.heap.size) _ _ l0 _ _ ?side1 HT0.out).mono ?_); (case side1 => exact Kd.V_mk HC0.out (Kd.F_below (Kd.C_F (Kd.heap_int .u64) HR0.out) (by repeat (first | (with_reducible first | exact HB.out | apply below_alloc | apply pw_below_drewN | apply below_drew1) | exact HB.out)))); rintro e w1 ⟨rfl, hp, hb⟩; refine ⟨_, rfl, ?_⟩; have n2_ := Aside0.mk (below_step (by repeat (first | (with_reducible first | exact HB.out | apply below_alloc | apply pw_below_drewN | apply below_drew1) | exact HB.out)) hb); clear HB; have HB := n2_; clear n2_; clear hb hp) | ((with_reducible refine gate_callee (f := 43) rfl ?_); refine goesL_ (some 22) rfl rfl Try.func43 (by kernel_rfl) rfl #[.slice (some ad1) l1.length c1] rfl (by (try simp only [List.map_toArray, List.map_cons, List.map_nil]); first | done | rfl) ?_; (with_reducible refine (trim_exact _ (fun k_ => k_ < w.heap.size) _ _ l1 _ _ ?side1 HT1.out).mono ?_); (case side1 => exact Kd.V_mk HC1.out (Kd.F_below (Kd.C_F (Kd.heap_int .u64) HR1.out) (by repeat (first | (with_reducible first | exact HB.out | apply below_alloc | apply pw_below_drewN | apply below_drew1) | exact HB.out)))); rintro e w1 ⟨rfl, hp, hb⟩; refine ⟨_, rfl, ?_⟩; have n2_ := Aside0.mk (below_step (by repeat (first | (with_reducible first | exact HB.out | apply below_alloc | apply pw_below_drewN | apply below_drew1) | exact HB.out)) hb); clear HB; have HB := n2_; clear n2_; clear hb hp) | ((with_reducible refine gate_callee (f := 19) rfl ?_); refine goesL_ (some 60) rfl rfl Try.func19 (by kernel_rfl) rfl #[.slice A0 a.length c0, .slice (some ad1) b.length c1] rfl (by (try simp only [List.map_toArray, List.map_cons, List.map_nil]); first | done | rfl) ?_; (with_reducible refine (nat_Cmp.calls _ _ _ a _ _ b _ _ (Kd.C_below HA.out (by repeat (first | (with_reducible first | exact HB.out | apply below_alloc | apply pw_below_drewN | apply below_drew1) | exact HB.out))) HCA.out (Kd.C_below HD.out (by repeat (first | (with_reducible first | exact HB.out | apply below_alloc | apply pw_below_drewN | apply below_drew1) | exact HB.out))) HCD.out HCMP.out).mono ?_); rintro e w1 ⟨rfl, hb⟩; refine ⟨_, rfl, ?_⟩; have n2_ := Aside0.mk (below_step (by repeat (first | (with_reducible first | exact HB.out | apply below_alloc | apply pw_below_drewN | apply below_drew1) | exact HB.out)) hb); clear HB; have HB := n2_; clear n2_; clear hb; have hx2 := (HB.out.cell (World.block_lt_of_cell? w _ HX1.out)).trans HX1.out) | ((with_reducible refine gate_callee (f := 48) rfl ?_); refine goesL_ (some 70) rfl rfl Try.func48 (by kernel_rfl) rfl #[.int .u64 tp] rfl (by (try simp only [List.map_toArray, List.map_cons, List.map_nil]); first | done | rfl) ?_; (with_reducible refine (bits_LeadingZeros64.calls tp n _ HLZ.out).mono ?_); rintro e w1 ⟨rfl, ⟨nd, rfl⟩⟩; refine ⟨_, rfl, ?_⟩) | ((with_reducible refine gate_callee (f := 27) rfl ?_); refine goesL_ (some 74) rfl rfl Try.func27 (by kernel_rfl) rfl #[.slice (some ad1) b.length c1, .int .i64 n] rfl (by (try simp only [List.map_toArray, List.map_cons, List.map_nil]); first | done | rfl) ?_; (with_reducible refine (shl_own _ _ b n vs 0 _ (Kd.C_below HD.out (by repeat (first | (with_reducible first | exact HB.out | apply below_alloc | apply pw_below_drewN | apply below_drew1) | exact HB.out))) HCD.out HSV.out).mono ?_); rintro e wv ⟨vv, rfl, ho0, hb⟩; refine ⟨_, rfl, ?_⟩; have hz_ := below_size (by repeat (first | (with_reducible first | exact HB.out | apply below_alloc | apply pw_below_drewN | apply below_drew1) | exact HB.out)); have n2_ := Aside0.mk (below_step (by repeat (first | (with_reducible first | exact HB.out | apply below_alloc | apply pw_below_drewN | apply below_drew1) | exact HB.out)) hb); clear HB; have HB := n2_; clear n2_; have HZvv := Aside0.mk hz_; have Hvv := Aside0.mk ho0; clear hb ho0 hz_) | ((with_reducible refine gate_callee (f := 27) rfl ?_); refine goesL_ (some 80) rfl rfl Try.func27 (by kernel_rfl) rfl #[.slice A0 a.length c0, .int .i64 n] rfl (by (try simp only [List.map_toArray, List.map_cons, List.map_nil]); first | done | rfl) ?_; (with_reducible refine (shl_own _ _ a n us 0 _ (Kd.C_below HA.out (by repeat (first | (with_reducible first | exact HB.out | apply below_alloc | apply pw_below_drewN | apply below_drew1) | exact HB.out))) HCA.out HSU.out).mono ?_); rintro e wu ⟨vu, rfl, ho0, hb⟩; refine ⟨_, rfl, ?_⟩; obtain ⟨gv, cv, ev, hbv, hlv, _⟩ := Kd.R_form Hvv.out (by have := HP.out.lenv; have := HM.out; omega); subst ev; have Hvw := Aside0.mk (Kd.R_reok (ok := fun k_ => k_ = gv) rfl (Kd.R_lower Hvv.out HZvv.out) (fun k hk => by injection hk with hk; exact hk.symm)); clear Hvv; have Hvv := Hvw; clear Hvw; have HGV := Aside0.mk (And.intro hbv hlv); clear hbv hlv; have HSZ := Aside0.mk hb.size; have hz_ := below_size (by repeat (first | (with_reducible first | exact HB.out | apply below_alloc | apply pw_below_drewN | apply below_drew1) | exact HB.out)); have n_Hvv := Aside0.mk (Kd.R_below (by (with_reducible repeat (first | apply Kd.R_alloc | apply Kd.R_drewN | apply Kd.R_drew)); exact Hvv.out) hb); clear Hvv; have Hvv := n_Hvv; clear n_Hvv; have n2_ := Aside0.mk (below_step (by repeat (first | (with_reducible first | exact HB.out | apply below_alloc | apply pw_below_drewN | apply below_drew1) | exact HB.out)) hb); clear HB; have HB := n2_; clear n2_; have HZvu := Aside0.mk hz_; have Hvu := Aside0.mk ho0; clear hb ho0 hz_))
  go_loopg [13] (a.length + 1 - us.length) (fun gk v13 wr => ∃ xs : List Int, Aside0 (xs.length + gk = a.length + 1) ∧ Aside0 (Lim xs) ∧ Aside0 (val xs = val us) ∧ Aside0 (Kd.R (Kd.int .u64) 46 wr w.heap.size (fun k_ => (wv.heap.size ≤ k_)) v13 xs) ∧ Aside0 (Kd.R (Kd.int .u64) 46 wr w.heap.size (fun k_ => (k_ = gv)) (.slice (some ⟨gv, 0, none⟩) vs.length cv) vs) ∧ Aside0 (wv.heap.size ≤ wr.heap.size) ∧ Aside0 (Below w.heap.size w wr))
  case atStart => exact ⟨us, ⟨by have := HP.out.lenu; omega⟩, ⟨HP.out.limu⟩, ⟨rfl⟩, ⟨Kd.R_lower Hvu.out HZvu.out⟩, Hvv, HSZ, ⟨(by repeat (first | (with_reducible first | exact HB.out | apply below_alloc | apply pw_below_drewN | apply below_drew1) | exact HB.out))⟩⟩
  case round =>
    clear Hvu Hvv HSZ HB
    obtain ⟨xs, HI, HX, HV, HU, Hvv, HSZ, HB⟩ := hrel
    obtain ⟨Au, cu, eu⟩ := Kd.R_slice HU.out
    subst eu
    cases gk with
    | succ gk' =>
      have hd : decide ((xs.length : Int) ≤ (a.length : Int)) = true := decide_eq_true (by have := HI.out; omega)
      have hd2 : decide (xs.length ≤ a.length) = true := decide_eq_true (by have := HI.out; omega)
      go_wp2_with (first | ((with_reducible refine gate_builtin (b := .append) (xs := #[.tmp 88, .tmp 89]) rfl ?_); at_builtin; refine Kd.R_append (Kd.int .u64) (w0 := w) w.heap.size rfl (.tmp 88) (.tmp 89) 22 46 (.int .u64 0) 8 rfl Try.underlying22 info46 rfl (by decide) (by omega) (.slice Au xs.length cu) xs (0) [.int .u64 (0)] (fun k_ => (wv.heap.size ≤ k_)) (fun _ => False) rfl rfl ?aP (fun _ hk => hk.elim) ?aF ?aO ?aB ?aS ?aL ?_; (case aP => exact rfl); (case aB => exact (by repeat (first | (with_reducible first | exact HB.out | apply below_alloc | apply pw_below_drewN | apply below_drew1) | exact HB.out))); (case aF => exact (fun k_ hk => (Nat.le_trans (Nat.le_trans HSZ.out (by simp [World.alloc])) hk))); (case aO => exact (by (with_reducible repeat (first | apply Kd.R_alloc | apply Kd.R_drewN | apply Kd.R_drew)); exact HU.out)); (case aS => exact (below_size (by repeat (first | (with_reducible first | exact HB.out | apply below_alloc | apply pw_below_drewN | apply below_drew1) | exact HB.out)))); (case aL => have := HI.out; have := HM.out; omega); intro v120 w12 ho hb hg hat; have n2_ := Aside0.mk (Kd.R_grown (by (with_reducible repeat (first | apply Kd.R_alloc | apply Kd.R_drewN | apply Kd.R_drew)); exact Hvv.out) hg (fun k_ hk_ he_ => by have h1_ := HU.out.1 k_ he_.symm; have h2_ := HGV.out.2; omega)); have n3_ := Aside0.mk (Nat.le_trans (Nat.le_trans HSZ.out (by simp [World.alloc])) hg.size); have n0_ := Aside0.mk (hb); have n1_ := Aside0.mk (ho); clear HB HU Hvv HSZ; have HB := n0_; have HU := n1_; have Hvv := n2_; have HSZ := n3_; clear n0_ n1_ n2_ n3_; clear ho hb hg hat))
      go_roundg gk'
      case measure => omega
      case rel => exact ⟨xs ++ [0], ⟨by rw [List.length_append]; have := HI.out; simp; omega⟩, ⟨HX.out.app (Lim.one (by decide) (by decide))⟩, ⟨by rw [val_snoc0]; exact HV.out⟩, HU, Hvv, HSZ, ⟨(by repeat (first | (with_reducible first | exact HB.out | apply below_alloc | apply pw_below_drewN | apply below_drew1) | exact HB.out))⟩⟩
    | zero =>
      have hxl : xs.length = a.length + 1 := by have := HI.out; omega
      have hd : decide ((xs.length : Int) ≤ (a.length : Int)) = false := decide_eq_false (by omega)
      have hd2 : decide (xs.length ≤ a.length) = false := decide_eq_false (by omega)
      obtain ⟨gu, cu', eu, hbu, hlu, _⟩ := Kd.R_form HU.out (by omega)
      injection eu with ea_ eb_ ec_
      subst ea_
      subst ec_
      clear eb_
      have HGU := Aside0.mk (show wv.heap.size ≤ gu ∧ gu < wr.heap.size from ⟨HU.out.1 gu rfl, hlu⟩)
      have HU2 := Aside0.mk (Kd.R_reok (ok := fun k_ => k_ = gu) rfl HU.out (fun k hk => by injection hk with hk; exact hk.symm))
      clear HU hbu hlu
      obtain ⟨nq, hnq⟩ : ∃ nq : Nat, nq = a.length + 1 - b.length := ⟨_, rfl⟩
      have hla := HP.out.lenab
      have hlv := HP.out.lenv
      have hmb := HM.out
      have hm1 : wrap64 ((xs.length : Int) - (vs.length : Int)) = ((nq : Nat) : Int) := by unfold wrap64; omega
      have hm2 : wrap64 (((nq : Nat) : Int) - 1) = ((nq : Nat) : Int) - 1 := by unfold wrap64; omega
      have hmk := fun u => make_cap u nq nq (Nat.le_refl _) (by omega)
      have hnq1 : 1 ≤ nq := by omega
      have HN := Aside0.mk (show nq = a.length + 1 - b.length ∧ 1 ≤ nq ∧ b.length ≤ a.length ∧ vs.length = b.length ∧ xs.length = a.length + 1 from ⟨hnq, hnq1, hla, hlv, hxl⟩)
      have HQ := Aside0.mk (Kd.R_reok (ok := fun k_ => k_ = wr.heap.size) rfl (make_cap_R wr w.heap.size nq nq (Nat.le_refl _) (by omega) (below_size HB.out)) (fun k hk => by injection hk with hk; exact hk.symm))
      have hvpos : 0 < val vs := by
        rw [HP.out.valv]
        exact Nat.mul_pos HP.out.pos (Nat.two_pow_pos _)
      have HVP := Aside0.mk hvpos
      have HVL := Aside0.mk (show val vs < 18446744073709551616 ^ b.length by have := val_lt vs HP.out.limv; rw [hlv] at this; exact this)
      have HBIG := Aside0.mk (show val xs < 18446744073709551616 ^ nq * val vs by rw [HV.out, HP.out.valu, HP.out.valv, hnq]; exact HP.out.big)
      clear hla hlv hmb hnq hnq1 hxl hvpos
      go_wp2
      obtain ⟨gq, hgq⟩ : ∃ g : Nat, wr.heap.size = g := ⟨_, rfl⟩
      rw [hgq] at HQ HGU
      rw [hgq]
      simp only [hm1, hm2]
      have HGB := Aside0.mk (show w.heap.size ≤ gq from hgq ▸ below_size HB.out)
      have HNE1 := Aside0.mk (show gq ≠ gu by have := HGU.out; omega)
      have HNE2 := Aside0.mk (show gv ≠ gu by have := HGU.out; have := HGV.out; omega)
      have HNE3 := Aside0.mk (show gv ≠ gq by have := HGU.out; have := HGV.out; omega)
      go_loopg [16] nq (fun gk v16 w2 => ∃ (u2 qs : List Int) (i : Int), v16 = .int .i64 i ∧ Aside0 (i + 1 = gk ∧ gk ≤ nq ∧ u2.length = xs.length ∧ qs.length = nq) ∧ Aside0 (Lim u2) ∧ Aside0 (Lim qs) ∧ Aside0 (val u2 + 18446744073709551616 ^ gk * (val (qs.drop gk) * val vs) = val xs ∧ val u2 < 18446744073709551616 ^ gk * val vs) ∧ Aside0 (Kd.R (Kd.int .u64) 46 w2 w.heap.size (fun k_ => (k_ = gu)) (.slice (some ⟨gu, 0, none⟩) xs.length cu) u2) ∧ Aside0 (Kd.R (Kd.int .u64) 46 w2 w.heap.size (fun k_ => (k_ = gq)) (.slice (some ⟨gq, 0, none⟩) nq nq) qs) ∧ Aside0 (Kd.R (Kd.int .u64) 46 w2 w.heap.size (fun k_ => (k_ = gv)) (.slice (some ⟨gv, 0, none⟩) vs.length cv) vs) ∧ Aside0 (Below w.heap.size w w2))
      case atStart => exact ⟨xs, List.replicate nq 0, (nq : Int) - 1, rfl, ⟨by have := HN.out; refine ⟨by omega, Nat.le_refl _, rfl, by simp⟩⟩, HX, ⟨zrow_lim nq⟩, ⟨by rw [List.drop_eq_nil_of_le (by simp)]; simp [val], HBIG.out⟩, ⟨(by (with_reducible repeat (first | apply Kd.R_alloc | apply Kd.R_drewN | apply Kd.R_drew)); exact HU2.out)⟩, ⟨by first | exact HQ.out | exact (by (with_reducible repeat (first | apply Kd.R_alloc | apply Kd.R_drewN | apply Kd.R_drew)); exact HQ.out)⟩, ⟨(by (with_reducible repeat (first | apply Kd.R_alloc | apply Kd.R_drewN | apply Kd.R_drew)); exact Hvv.out)⟩, ⟨(by repeat (first | (with_reducible first | exact HB.out | apply below_alloc | apply pw_below_drewN | apply below_drew1) | exact HB.out))⟩⟩
      case round =>
        clear HU2 HQ Hvv HB
        obtain ⟨u2, qs, i, rfl, HJ, HX2, HXQ, HINV, HU, HQ, Hvv, HB⟩ := hrel
        cases gk with
        | zero =>
          have hi : i = -1 := by have := HJ.out; omega
          have hd : decide (0 ≤ i) = false := decide_eq_false (by omega)
          have hulen : u2.length = xs.length := HJ.out.2.2.1
          have hqlen : qs.length = nq := HJ.out.2.2.2
          have hv := HINV.out
          rw [List.drop_zero, Nat.pow_zero, Nat.one_mul, Nat.one_mul, HV.out, HP.out.valu, HP.out.valv] at hv
          obtain ⟨hqv, hrv⟩ := div_end (val l0) (val l1) (val qs) (val u2) un HP.out.pos hv.1 hv.2
          have hsh := Shr_ge u2 HX2.out (by have := HN.out; have := HM.out; omega) un (by have := HP.out.hn.2; omega) (2 * u2.length + 4) (Nat.le_refl _)
          have htq := trim_eq qs.length qs rfl HXQ.out (by have := HN.out; have := HM.out; omega) 0
          rw [hrv, ← HP.out.hn.1] at hsh
          rw [hqv] at htq
          have HTQ := Aside0.mk htq
          have HQ2 := Aside0.mk (show Kd.R (Kd.int .u64) 46 wr w.heap.size (fun k_ => (k_ = gq)) (.slice (some ⟨gq, 0, none⟩) qs.length nq) qs by rw [hqlen]; exact HQ.out)
          have hsc := nat_Shr.calls (2 * u2.length + 4) (some ⟨gu, 0, none⟩) cu u2 n _ 0 wr (Kd.R_reads' HU.out).2.2 (by rw [hulen]; exact (Kd.R_reads' HU.out).2.1) hsh
          rw [hulen] at hsc
          have HSC := Aside0.mk hsc
          clear hv hqv hrv hsh htq hsc HQ hi
          go_wp2_with (first | ((with_reducible refine gate_callee (f := 28) rfl ?_); refine goesL_ (some 123) rfl rfl Try.func28 (by kernel_rfl) rfl #[.slice (some ⟨gu, 0, none⟩) xs.length cu, .int .i64 n] rfl (by (try simp only [List.map_toArray, List.map_cons, List.map_nil]); first | done | rfl) ?_; (with_reducible refine HSC.out.mono ?_); rintro e w5 ⟨vr, rfl, ho0, hb⟩; refine ⟨_, rfl, ?_⟩; have n0_ := Aside0.mk (Kd.V_lower (Kd.V_mono (ok' := fun k_ => (w.heap.size ≤ k_)) ho0 (fun k_ hk_ => Nat.le_trans (below_size (by repeat (first | (with_reducible first | exact HB.out | apply below_alloc | apply pw_below_drewN | apply below_drew1) | exact HB.out))) hk_)) (below_size (by repeat (first | (with_reducible first | exact HB.out | apply below_alloc | apply pw_below_drewN | apply below_drew1) | exact HB.out)))); have n1_ := Aside0.mk (Kd.R_below HQ2.out hb); have n2_ := Aside0.mk (below_step (by repeat (first | (with_reducible first | exact HB.out | apply below_alloc | apply pw_below_drewN | apply below_drew1) | exact HB.out)) hb); clear HB; have HB := n2_; clear n2_; clear HQ2; have HVR := n0_; have HQ2 := n1_; clear n0_ n1_ hb ho0) | ((with_reducible refine gate_callee (f := 43) rfl ?_); refine goesL_ (some 127) rfl rfl Try.func43 (by kernel_rfl) rfl #[.slice (some ⟨gq, 0, none⟩) nq nq] rfl (by (try simp only [List.map_toArray, List.map_cons, List.map_nil]); first | done | rfl) ?_; have h_ := nat_trim.calls (0 + qs.length + 1) (fun k_ => k_ = gq) (some ⟨gq, 0, none⟩) nq qs _ _ (Kd.R_V HQ2.out) HTQ.out; rw [hqlen] at h_; (with_reducible refine h_.mono ?_); clear h_; rintro e w6 ⟨vq, rfl, ho0, hb⟩; refine ⟨_, rfl, ?_⟩; have n0_ := Aside0.mk (Kd.V_lower (Kd.V_mono (ok' := fun k_ => (w.heap.size ≤ k_)) ho0 (fun k_ hk_ => Or.elim hk_ (fun hs_ => by rw [hs_]; exact HGB.out) (fun hn_ => Nat.le_trans (below_size (by repeat (first | (with_reducible first | exact HB.out | apply below_alloc | apply pw_below_drewN | apply below_drew1) | exact HB.out))) hn_))) (below_size (by repeat (first | (with_reducible first | exact HB.out | apply below_alloc | apply pw_below_drewN | apply below_drew1) | exact HB.out)))); have n1_ := Aside0.mk (Kd.V_below HVR.out hb); have n2_ := Aside0.mk (below_step (by repeat (first | (with_reducible first | exact HB.out | apply below_alloc | apply pw_below_drewN | apply below_drew1) | exact HB.out)) hb); clear HB; have HB := n2_; clear n2_; clear HVR; have HVQ := n0_; have HVR := n1_; clear n0_ n1_ hb ho0))
          go_ret3
          exact ⟨_, _, by first | rfl | (simp [errW_none, errW_some] <;> rfl) | (simp [*, errW_none, errW_some] <;> rfl), HVQ.out, HVR.out, HB.out⟩
        | succ j =>
          obtain ⟨pre, win, post, hsp, hpl, hwl⟩ := split3 u2 j (b.length + 1) (by have := HJ.out; have := HN.out; omega)
          subst hsp
          subst hpl
          obtain rfl : i = (pre.length : Int) := by have := HJ.out; omega
          have hd : decide ((0 : Int) ≤ (pre.length : Int)) = true := decide_eq_true (by omega)
          obtain ⟨hpost, hwlt⟩ := div_win pre win post (val vs) b.length hwl HVL.out HINV.out.2
          have limw : Lim win := fun z hz => HX2.out z (List.mem_append_left _ (List.mem_append_right _ hz))
          have limp : Lim pre := fun z hz => HX2.out z (List.mem_append_left _ (List.mem_append_left _ hz))
          have limq : Lim post := fun z hz => HX2.out z (List.mem_append_right _ hz)
          obtain ⟨K, qd, win', hdig, hwl2, limw2, hqd, hwv⟩ := digit_is win vs limw HP.out.limv (by have := HN.out; omega) (by have := HN.out; have := HM.out; omega) (by have := HN.out; have := HM.out; omega) hwlt
          have hst := div_step pre win post win' qs (val vs) (val xs) limp HVP.out (by have := HJ.out; omega) hwl2 hpost hwv HINV.out.1
          rw [← hqd] at hst
          have hqb : 0 ≤ qd ∧ qd < 18446744073709551616 := by
            have h1 : val win / val vs < 18446744073709551616 := Nat.div_lt_of_lt_mul (by rw [Nat.mul_comm]; exact hwlt)
            rw [hqd]
            generalize val win / val vs = z at h1
            omega
          have HDG := Aside0.mk hdig
          have HST := Aside0.mk hst
          have HL2 := Aside0.mk (show (pre ++ win' ++ post).length = xs.length ∧ (pre ++ win ++ post).length = xs.length ∧ win.length = b.length + 1 ∧ win'.length = win.length by have := HJ.out; simp only [List.length_append] at this ⊢; refine ⟨by omega, by omega, hwl, hwl2⟩)
          have HX3 := Aside0.mk (show Lim (pre ++ win' ++ post) from (limp.app limw2).app limq)
          have HXQ2 := Aside0.mk (row_set HXQ.out pre.length qd hqb)
          clear hst hqd hwv hdig limw limp limq limw2 hwlt hpost hqb hwl hwl2
          obtain ⟨h1n, hh1⟩ : ∃ z : Nat, z = pre.length + vs.length := ⟨_, rfl⟩
          obtain ⟨h2n, hh2⟩ : ∃ z : Nat, z = pre.length + vs.length + 1 := ⟨_, rfl⟩
          have hcut := win_cut gu xs.length cu pre.length h2n (by omega) (by have := HJ.out; have := HN.out; omega) (Kd.R_reads' HU.out).2.1
          have hwn : h2n - pre.length = win.length := by have := HL2.out; have := HN.out; omega
          rw [hwn] at hcut
          have p2 := eq_true (show (0 : Int) ≤ (pre.length : Int) by omega)
          have q2 := eq_true (show (pre.length : Int) < (nq : Int) by have := HJ.out; omega)
          have q3 := eq_true (show pre.length < nq by have := HJ.out; omega)
          have ha1 : wrap64 ((pre.length : Int) + (vs.length : Int)) = (h1n : Int) := by have := HJ.out; have := HN.out; have := HM.out; unfold wrap64; omega
          have ha2 : wrap64 ((h1n : Int) + 1) = (h2n : Int) := by clear ha1; have := HJ.out; have := HN.out; have := HM.out; unfold wrap64; omega
          have ha3 : wrap64 ((pre.length : Int) - 1) = (pre.length : Int) - 1 := by clear ha1 ha2; have := HJ.out; have := HN.out; have := HM.out; unfold wrap64; omega
          clear hwn hh1 hh2
          have HCALL := Aside0.mk (digit_win K pre post cu (fun k_ => k_ = gu) _ win _ cv vs qd win' w _ HB.out (Wn_of HU.out) (Kd.C_kept_own Hvv.out (fun k_ hk_ he_ => HNE2.out (hk_.symm.trans he_))) (Kd.R_reads' Hvv.out).2.1 HDG.out)
          go_wp2_with (first | ((with_reducible refine gate_callee (f := 49) rfl ?_); refine goesL_ (some 118) rfl rfl Try.func49 (by kernel_rfl) rfl #[.slice (some ⟨gu, pre.length, none⟩) win.length (cu - pre.length), .slice (some ⟨gv, 0, none⟩) vs.length cv] rfl (by (try simp only [List.map_toArray, List.map_cons, List.map_nil]); first | done | rfl) ?_; (with_reducible refine HCALL.out.mono ?_); rintro e w3 ⟨rfl, hW, hb, hk⟩; refine ⟨_, rfl, ?_⟩; have n0_ := Aside0.mk (show Kd.R (Kd.int .u64) 46 w3 w.heap.size (fun k_ => (k_ = gu)) (.slice (some ⟨gu, 0, none⟩) xs.length cu) (pre ++ win' ++ post) from by have h_ := Wn_row hW; rw [HL2.out.1] at h_; exact h_); have n1_ := Aside0.mk (Kd.R_kept (by (with_reducible repeat (first | apply Kd.R_alloc | apply Kd.R_drewN | apply Kd.R_drew)); exact HQ.out) hk (fun k_ (hk_ : k_ = gq) (he_ : k_ = gu) => HNE1.out (hk_.symm.trans he_))); have n2_ := Aside0.mk (Kd.R_kept (by (with_reducible repeat (first | apply Kd.R_alloc | apply Kd.R_drewN | apply Kd.R_drew)); exact Hvv.out) hk (fun k_ (hk_ : k_ = gv) (he_ : k_ = gu) => HNE2.out (hk_.symm.trans he_))); have n3_ := Aside0.mk hb; clear HU HQ Hvv HB; have HU := n0_; have HQ := n1_; have Hvv := n2_; have HB := n3_; clear n0_ n1_ n2_ n3_ hW hb hk; obtain ⟨hx2, hf2⟩ := Kd.R_celln (0 : Int) HQ.out ((pre.length : Nat) : Int) (of_eq_true p2) (of_eq_true q2); have HPQ := Kd.R_putg HQ.out ((pre.length : Nat) : Int) qd; rw [Int.toNat_natCast] at hx2 hf2 HPQ) | ((with_reducible refine gate_store (t := 46) (p := 119) rfl ?_); refine store_event (t := 46) (p := 119) (v := ?vo_) (w1 := (w3.setCell ⟨gq, pre.length, none⟩ (.int .u64 qd))) ?hg ?ho ?hn ?hr ?_; (case ho => rfl); (case hg => rfl); (case hn => rfl); (case hr => first | (go_simp; done) | (go_simp; rfl)); intro w23 hw; have hg : w3.grownBy w23 (some gq) := (by rw [hw]; exact HPQ.2); have n0_ : Aside0 (Kd.R (Kd.int .u64) 46 w23 w.heap.size (fun k_ => (k_ = gq)) (.slice (some ⟨gq, 0, none⟩) nq nq) (qs.set pre.length qd)) := ⟨by rw [hw]; exact HPQ.1⟩; have n1_ := Aside0.mk (Kd.R_grown HU.out hg (fun k_ (hk_ : k_ = gu) he_ => HNE1.out (by injection he_ with he_; exact he_.symm.trans hk_))); have n2_ := Aside0.mk (Kd.R_grown Hvv.out hg (fun k_ (hk_ : k_ = gv) he_ => HNE3.out (by injection he_ with he_; exact hk_.symm.trans he_))); have n3_ := Aside0.mk (by rw [hw]; exact below_set HB.out HGB.out : Below w.heap.size w w23); clear HU HQ Hvv HB HPQ hg hw hx2 hf2; have HQ := n0_; have HU := n1_; have Hvv := n2_; have HB := n3_; clear n0_ n1_ n2_ n3_))
          go_roundg pre.length
          case measure => first | exact Nat.lt_succ_self _ | omega
          case rel => exact ⟨pre ++ win' ++ post, qs.set pre.length qd, wrap64 ((pre.length : Int) - 1), (by first | rfl | (simp; done) | (simp [*]; done)), ⟨by have := HJ.out; rw [ha3]; clear ha1 ha2 ha3; refine ⟨by omega, by omega, HL2.out.1, by rw [List.length_set]; exact this.2.2.2⟩⟩, HX3, HXQ2, HST, HU, HQ, Hvv, HB⟩
end Go.Proofs.Ytfaknblpkegekaa.Q
