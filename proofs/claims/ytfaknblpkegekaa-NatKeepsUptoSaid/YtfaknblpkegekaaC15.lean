import GoSem.Claim
import Derived.Test.YtfaknblpkegekaaC14
section
namespace Go.Proofs.Ytfaknblpkegekaa.Q
open Go.RowKit Go.Proofs.YtfaknblpkegekaaW.PrintWords Go.Proofs.YtfaknblpkegekaaW.PrintLast Go.Proofs.YtfaknblpkegekaaW.PrintMore
set_option linter.unusedVariables false
set_option linter.unusedSimpArgs false
theorem info22 : (Try.prog.info? 22).map (fun i => (i.zero, i.size, i.bytes)) = some (some (.slice none 0 0), 1, 24) := by kernel_rfl
set_option maxHeartbeats 16000000 in
set_option maxRecDepth 100000 in
theorem keeps_walk (A0 : Option Addr) (c0 : Nat) (l0 : List Int) (A1 : Option Addr) (c1 : Nat) (l1 : List Int) (n : Int) (q r d s t no ad mu : List Int) (e f g h : Int) (K : Nat) (w : World) (hr0 : Kd.C (Kd.int .u64) w A0 l0.length l0) (hc0 : l0.length ≤ c0) (hr1 : Kd.C (Kd.int .u64) w A1 l1.length l1) (hc1 : l1.length ≤ c1) (m0 : Lim l0) (m1 : Lim l1) (n0 : l0.length ≤ 1048576) (n1 : l1.length ≤ 1048576)
    (a1 : (if val l1 = 0 then (([] : List Int), ([] : List Int), (11 : Int)) else (limbs (val l0 / val l1), limbs (val l0 % val l1), 0)) = (q, r, e)) (a2 : nat_Sub.f l0 l1 = some (d, f)) (a3 : nat_Shl.f l0 n = some (s, g)) (a4 : nat_Shr.f K l0 n = some (t, h)) (a5 : nat_Norm.f K l0 = some no) (a6 : nat_Add.f l0 l1 = some ad) (a7 : nat_Mul.f K l0 l1 = some mu)
    (b1 : q.length ≤ 4194304) (b2 : r.length ≤ 4194304) (b3 : d.length ≤ 4194304) (b4 : s.length ≤ 4194304) (b5 : t.length ≤ 4194304) (b6 : no.length ≤ 4194304) (b7 : ad.length ≤ 4194304) (b8 : mu.length ≤ 4194304) :
    Calls Try.prog 10 #[.slice A0 l0.length c0, .slice A1 l1.length c1, .int .i64 n] w fun e w' => e = .returned (.bool true) ∧ Below w.heap.size w w' := by
  have HR0 := Aside0.mk hr0
  have HC0 := Aside0.mk hc0
  have HR1 := Aside0.mk hr1
  have HC1 := Aside0.mk hc1
  have M0 := Aside0.mk m0
  have M1 := Aside0.mk m1
  have N0 := Aside0.mk n0
  have N1 := Aside0.mk n1
  have HA1 := Aside0.mk a1
  have HA2 := Aside0.mk a2
  have HA3 := Aside0.mk a3
  have HA4 := Aside0.mk a4
  have HA5 := Aside0.mk a5
  have HA6 := Aside0.mk a6
  have HA7 := Aside0.mk a7
  have B1 := Aside0.mk b1
  have B2 := Aside0.mk b2
  have B3 := Aside0.mk b3
  have B4 := Aside0.mk b4
  have B5 := Aside0.mk b5
  have B6 := Aside0.mk b6
  have B7 := Aside0.mk b7
  have B8 := Aside0.mk b8
  clear hr0 hc0 hr1 hc1 m0 m1 n0 n1 a1 a2 a3 a4 a5 a6 a7 b1 b2 b3 b4 b5 b6 b7 b8
  go_enter Try.func10, Try.ntmps10
  go_upto_region 6 with (first | ((with_reducible refine gate_callee (f := 33) rfl ?_); refine goesL_ (some 26) rfl rfl Try.func33 (by kernel_rfl) rfl #[.slice A0 l0.length c0] rfl (by (try simp only [List.map_toArray, List.map_cons, List.map_nil]); first | done | rfl) ?_; (with_reducible refine (own_walk _ _ l0 _ HR0.out HC0.out (Nat.le_trans N0.out (by decide))).mono ?_); rintro e_ w1 ⟨gx, cx, rfl, hx, hb⟩; refine ⟨_, rfl, ?_⟩; have HX := Aside0.mk hx; have HB := Aside0.mk hb; clear hx hb) | ((with_reducible refine gate_callee (f := 33) rfl ?_); refine goesL_ (some 28) rfl rfl Try.func33 (by kernel_rfl) rfl #[.slice A1 l1.length c1] rfl (by (try simp only [List.map_toArray, List.map_cons, List.map_nil]); first | done | rfl) ?_; (with_reducible refine (own_walk _ _ l1 _ (Kd.C_below HR1.out HB.out) HC1.out (Nat.le_trans N1.out (by decide))).mono ?_); rintro e_ w2 ⟨gy, cy, rfl, hy, hb⟩; refine ⟨_, rfl, ?_⟩; have hx := Kd.R_below HX.out hb; have CX := Aside0.mk (own_C hx); have CY := Aside0.mk (own_C hy); have hcx := (Kd.R_reads' hx).2.1; have hcy := (Kd.R_reads' hy).2.1; have XC := Aside0.mk (show l0.length ≤ cx by omega); have YC := Aside0.mk (show l1.length ≤ cy by omega); clear HX; have HX := Aside0.mk hx; have HY := Aside0.mk hy; have hbb := below_step HB.out hb; have HR0_ := Aside0.mk (Kd.C_below HR0.out hbb); have HR1_ := Aside0.mk (Kd.C_below HR1.out hbb); clear HR0 HR1 HB; have HR0 := HR0_; have HR1 := HR1_; have HW := Aside0.mk hbb; have HB := Aside0.mk (Below.refl w2.heap.size w2); clear HR0_ HR1_ hx hy hb hcx hcy hbb) | ((with_reducible refine gate_callee (f := 25) rfl ?_); refine goesL_ (some 32) rfl rfl Try.func25 (by kernel_rfl) rfl #[(.slice (some ⟨gx, 0, none⟩) l0.length cx), (.slice (some ⟨gy, 0, none⟩) l1.length cy)] rfl (by (try simp only [List.map_toArray, List.map_cons, List.map_nil]); first | done | rfl) ?_; (with_reducible refine (DivMod_own _ _ l0 _ _ l1 _ (Kd.C_below CX.out HB.out) XC.out (Kd.C_below CY.out HB.out) YC.out M0.out M1.out (Nat.le_trans N0.out (by decide)) (Nat.le_trans N1.out (by decide)) q r e HA1.out).mono ?_); rintro e_ w3 ⟨vq, vr, rfl, hq, hr, hb⟩; refine ⟨_, rfl, ?_⟩; have HS := Aside0.mk (Sep.two HB.out.size hq hr B1.out B2.out); have HB_ := Aside0.mk (below_step HB.out hb); clear HB; have HB := HB_; clear HB_; obtain ⟨Aq, cq, rfl⟩ := Kd.R_slice hq; obtain ⟨Ar, cr, rfl⟩ := Kd.R_slice hr; clear hq hr hb) | ((with_reducible refine gate_callee (f := 13) rfl ?_); refine goesL_ (some 39) rfl rfl Try.func13 (by kernel_rfl) rfl #[(.slice (some ⟨gx, 0, none⟩) l0.length cx), (.slice (some ⟨gy, 0, none⟩) l1.length cy)] rfl (by (try simp only [List.map_toArray, List.map_cons, List.map_nil]); first | done | rfl) ?_; (with_reducible refine (nat_Sub.own _ _ l0 _ _ l1 d f _ (Kd.C_below CX.out HB.out) XC.out (Kd.C_below CY.out HB.out) YC.out HA2.out).mono ?_); rintro e_ w4 ⟨vd, rfl, hv, hb⟩; refine ⟨_, rfl, ?_⟩; have HS_ := Aside0.mk (HS.out.add hb HB.out.size hv B3.out); have HB_ := Aside0.mk (below_step HB.out hb); clear HB HS; have HB := HB_; have HS := HS_; clear HB_ HS_; obtain ⟨Ad, cd, rfl⟩ := Kd.R_slice hv; clear hv hb) | ((with_reducible refine gate_callee (f := 27) rfl ?_); refine goesL_ (some 45) rfl rfl Try.func27 (by kernel_rfl) rfl #[(.slice (some ⟨gx, 0, none⟩) l0.length cx), .int .i64 n] rfl (by (try simp only [List.map_toArray, List.map_cons, List.map_nil]); first | done | rfl) ?_; (with_reducible refine (shl_own _ _ l0 n s g _ (Kd.C_below CX.out HB.out) XC.out HA3.out).mono ?_); rintro e_ w5 ⟨vs, rfl, hv, hb⟩; refine ⟨_, rfl, ?_⟩; have HS_ := Aside0.mk (HS.out.add hb HB.out.size hv B4.out); have HB_ := Aside0.mk (below_step HB.out hb); clear HB HS; have HB := HB_; have HS := HS_; clear HB_ HS_; obtain ⟨As, cs, rfl⟩ := Kd.R_slice hv; clear hv hb) | ((with_reducible refine gate_callee (f := 28) rfl ?_); refine goesL_ (some 51) rfl rfl Try.func28 (by kernel_rfl) rfl #[(.slice (some ⟨gx, 0, none⟩) l0.length cx), .int .i64 n] rfl (by (try simp only [List.map_toArray, List.map_cons, List.map_nil]); first | done | rfl) ?_; (with_reducible refine (nat_Shr.own K _ _ l0 n t h _ (Kd.C_below CX.out HB.out) XC.out HA4.out).mono ?_); rintro e_ w6 ⟨vt, rfl, hv, hb⟩; refine ⟨_, rfl, ?_⟩; have HS_ := Aside0.mk (HS.out.add hb HB.out.size hv B5.out); have HB_ := Aside0.mk (below_step HB.out hb); clear HB HS; have HB := HB_; have HS := HS_; clear HB_ HS_; obtain ⟨At, ct, rfl⟩ := Kd.R_slice hv; clear hv hb))
  go_upto_region 7 with (first | ((with_reducible refine gate_callee (f := 31) rfl ?_); refine goesL_ (some 55) rfl rfl Try.func31 (by kernel_rfl) rfl #[(.slice (some ⟨gx, 0, none⟩) l0.length cx)] rfl (by (try simp only [List.map_toArray, List.map_cons, List.map_nil]); first | done | rfl) ?_; (with_reducible refine (nat_Norm.calls K _ _ l0 no _ (Kd.C_below CX.out HB.out) XC.out HA5.out).mono ?_); rintro e_ w7 ⟨vno, rfl, hv, hb⟩; refine ⟨_, rfl, ?_⟩; have HS_ := Aside0.mk (HS.out.add hb HB.out.size hv B6.out); have HB_ := Aside0.mk (below_step HB.out hb); clear HB HS; have HB := HB_; have HS := HS_; clear HB_ HS_; obtain ⟨Ano, cno, rfl⟩ := Kd.R_slice hv; clear hv hb) | ((with_reducible refine gate_callee (f := 16) rfl ?_); refine goesL_ (some 58) rfl rfl Try.func16 (by kernel_rfl) rfl #[(.slice (some ⟨gx, 0, none⟩) l0.length cx), (.slice (some ⟨gy, 0, none⟩) l1.length cy)] rfl (by (try simp only [List.map_toArray, List.map_cons, List.map_nil]); first | done | rfl) ?_; (with_reducible refine (nat_Add.own _ _ l0 _ _ l1 ad _ (Kd.C_below CX.out HB.out) XC.out (Kd.C_below CY.out HB.out) YC.out HA6.out).mono ?_); rintro e_ w8 ⟨vad, rfl, hv, hb⟩; refine ⟨_, rfl, ?_⟩; have HS_ := Aside0.mk (HS.out.add hb HB.out.size hv B7.out); have HB_ := Aside0.mk (below_step HB.out hb); clear HB HS; have HB := HB_; have HS := HS_; clear HB_ HS_; obtain ⟨Aad, cad, rfl⟩ := Kd.R_slice hv; clear hv hb) | ((with_reducible refine gate_callee (f := 23) rfl ?_); refine goesL_ (some 62) rfl rfl Try.func23 (by kernel_rfl) rfl #[(.slice (some ⟨gx, 0, none⟩) l0.length cx), (.slice (some ⟨gy, 0, none⟩) l1.length cy)] rfl (by (try simp only [List.map_toArray, List.map_cons, List.map_nil]); first | done | rfl) ?_; (with_reducible refine (nat_Mul.own K _ _ l0 _ _ l1 mu _ (Kd.C_below CX.out HB.out) XC.out (Kd.C_below CY.out HB.out) YC.out HA7.out).mono ?_); rintro e_ w9 ⟨vmu, rfl, hv, hb⟩; refine ⟨_, rfl, ?_⟩; have HS_ := Aside0.mk (HS.out.add hb HB.out.size hv B8.out); have HB_ := Aside0.mk (below_step HB.out hb); clear HB HS; have HB := HB_; have HS := HS_; clear HB_ HS_; obtain ⟨Amu, cmu, rfl⟩ := Kd.R_slice hv; clear hv hb))
  obtain ⟨V, X, HE, HL⟩ := S8.ex (HS.out.below (below_alloc (Below.refl _ _) (.cells #[Value.slice Ano no.length cno, Value.slice Aad ad.length cad, Value.slice Ad d.length cd, Value.slice Amu mu.length cmu, Value.slice Aq q.length cq, Value.slice Ar r.length cr, Value.slice As s.length cs, Value.slice At t.length ct] 22))) rfl (Value.slice none 0 0, []) (heap_alloc_new w9 (.cells #[Value.slice Ano no.length cno, Value.slice Aad ad.length cad, Value.slice Ad d.length cd, Value.slice Amu mu.length cmu, Value.slice Aq q.length cq, Value.slice Ar r.length cr, Value.slice As s.length cs, Value.slice At t.length ct] 22)) (by intro i hi; have h_ : i = 0 ∨ i = 1 ∨ i = 2 ∨ i = 3 ∨ i = 4 ∨ i = 5 ∨ i = 6 ∨ i = 7 := (by omega); rcases h_ with rfl | rfl | rfl | rfl | rfl | rfl | rfl | rfl <;> rfl)
  have HGL := Aside0.mk (heap_alloc_new w9 (.cells #[Value.slice Ano no.length cno, Value.slice Aad ad.length cad, Value.slice Ad d.length cd, Value.slice Amu mu.length cmu, Value.slice Aq q.length cq, Value.slice Ar r.length cr, Value.slice As s.length cs, Value.slice At t.length ct] 22))
  have HBN := Aside0.mk (below_step HB.out (below_alloc (Below.refl _ _) (.cells #[Value.slice Ano no.length cno, Value.slice Aad ad.length cad, Value.slice Ad d.length cd, Value.slice Amu mu.length cmu, Value.slice Aq q.length cq, Value.slice Ar r.length cr, Value.slice As s.length cs, Value.slice At t.length ct] 22)))
  clear HS HB HA1 HA2 HA3 HA4 HA5 HA6 HA7 B1 B2 B3 B4 B5 B6 B7 B8
  generalize World.alloc w9 _ = w10 at *
  generalize w9.heap.size = gL at *
  go_wp2_with (first | ((with_reducible refine gate_dst (N := 68) rfl ?_); refine Kd.R_lit (Kd.slice 46 (Kd.int .u64)) w10.heap.size 22 ?hg (N := 68) ?hd (w0 := w10) (xs := ([] : List (List Int))) (inner := []) (ok := fun k_ => w10.heap.size ≤ k_) (okp := fun k_ => w10.heap.size ≤ k_) ?hr ?hp (fun _ hk => hk) (Nat.le_refl _) (Below.refl _ _) (Nat.le_refl _) (by simp) ?_; (case hd => rfl); (case hg => rfl); (case hr => first | (go_simp; done) | (go_simp; rfl)); (case hp => exact (Reps.none _ _)); intro v68 wz ho hb hg_ hnew_; clear hg_ hnew_; have HO := Aside0.mk ho; have HB := Aside0.mk hb; clear ho hb))
  have HGS := Aside0.mk (blk_lt HGL.out)
  go_loopg [19, 20] 8 (fun gk v19 v20 wr => ∃ i : Nat, v20 = .int .i64 (i : Int) ∧ Aside0 (i + gk = 8) ∧ Aside0 (Kd.R (Kd.slice 46 (Kd.int .u64)) 22 wr w10.heap.size (fun k_ => w10.heap.size ≤ k_) v19 ((List.range i).map X)) ∧ Aside0 (Below w10.heap.size w10 wr))
  case atStart => exact ⟨0, rfl, ⟨rfl⟩, HO, HB⟩
  case round =>
    clear HO HB
    obtain ⟨i, rfl, HI, HO, HB⟩ := hrel
    cases gk with
    | zero =>
      obtain rfl : i = 8 := by have := HI.out; omega
      obtain ⟨gW, cW, eW, _, _, _⟩ := Kd.R_form HO.out (by simp)
      rw [List.length_map, List.length_range] at eW
      subst eW
      have HK := Aside0.mk (WK.of HO.out)
      have HE2 := Aside0.mk (HE.out.below HB.out)
      have HL2 := Aside0.mk (show ∀ i, i < 8 → wr.cell? ⟨gL, i, none⟩ = some (V i) from fun i hi => (World.cell?_of_block (HB.out.block gL HGS.out)).trans (HL.out i hi))
      have HG2 := Aside0.mk (blk_below HGL.out HB.out)
      have HBW := Aside0.mk (below_step HBN.out HB.out)
      have HSM := Aside0.mk (show ∀ j, j < 8 → ∀ b, (V j).ownBlock = some b → w2.heap.size ≤ b ∧ b < w10.heap.size ∧ b ≠ gL from fun j hj b hb => ⟨Kd.R_base (HE.out.r j hj) b hb, Kd.R_lt (HE.out.r j hj) b hb, by obtain ⟨cc, hcc⟩ := Kd.R_typed (HE.out.r j hj) b hb; exact blk_ne hcc HGL.out (by decide)⟩)
      clear HO HB HE HL HGL HBN HI
      obtain ⟨wo, rfl⟩ : ∃ wo : World, wo = wr := ⟨_, rfl⟩
      go_wp2
      go_loopg [21] 8 (fun gk v21 wr => ∃ i : Nat, v21 = .int .i64 (i : Int) ∧ Aside0 (i + gk = 8) ∧ Aside0 (KW w2.heap.size wo wr (SB V i)))
      case atStart => exact ⟨0, rfl, ⟨rfl⟩, ⟨KW.refl HBW.out.size⟩⟩
      case round =>
        obtain ⟨i, rfl, HI, HQ⟩ := hrel
        cases gk with
        | zero =>
          obtain rfl : i = 8 := by have := HI.out; omega
          have H1_ : Aside0 True := ⟨trivial⟩
          have HB := Aside0.mk (HBW.out.trans HQ.out.below)
          clear HBW HQ HK HE2 HL2 HG2 HSM
          go_wp2_with (first | ((with_reducible refine gate_callee (f := 14) rfl ?_); refine goesL_ (some 144) rfl rfl Try.func14 (by kernel_rfl) rfl #[] rfl (by (try simp only [List.map_toArray, List.map_cons, List.map_nil]); first | done | rfl) ?_; (with_reducible refine (quipulaw01_awake.calls 60 true _ awake60).mono ?_); rintro e_ w1_ ⟨rfl, hb⟩; refine ⟨_, rfl, ?_⟩; have HB_ := Aside0.mk (below_step HB.out hb); clear HB; have HB := HB_; clear HB_ hb) | (go_at_call 34; have hz_ := H1_.out; (with_reducible refine (kept_walk gx cx l0 A0 c0 _ (Kd.R_below HX.out HB.out) (Kd.C_below HR0.out HB.out) HC0.out (Nat.le_trans N0.out (by decide))).mono ?_); rintro e_ w1_ ⟨rfl, hd_⟩; obtain ⟨nd_, rfl⟩ := hd_.out; have HB_ := Aside0.mk (pw_below_drewN HB.out nd_); clear HB hd_ hz_; have HB := HB_; clear HB_; clear H1_; have H2_ : Aside0 True := ⟨trivial⟩) | (go_at_call 34; have hz_ := H2_.out; (with_reducible refine (kept_walk gy cy l1 A1 c1 _ (Kd.R_below HY.out HB.out) (Kd.C_below HR1.out HB.out) HC1.out (Nat.le_trans N1.out (by decide))).mono ?_); rintro e_ w1_ ⟨rfl, hd_⟩; obtain ⟨nd_, rfl⟩ := hd_.out; have HB_ := Aside0.mk (pw_below_drewN HB.out nd_); clear HB hd_ hz_; have HB := HB_; clear HB_; clear H2_))
          go_ret
          exact ⟨rfl, HW.out.trans ((show Below w2.heap.size w2 _ by first | exact HB.out | (have h_ := HB.out; simp only [World.drewN_drewN] at h_; exact h_)).mono HW.out.size)⟩
        | succ gk' =>
          have hi8 : i < 8 := by have := HI.out; omega
          have hd : decide ((i : Int) < 8) = true := decide_eq_true (by omega)
          have p1 : (0 ≤ (i : Int)) = True := eq_true (by omega)
          have q1 : ((i : Int) < 8) = True := eq_true (by omega)
          obtain ⟨Ai, ci, hVi⟩ := Kd.R_slice (HE2.out.r i hi8)
          have HVi := Aside0.mk hVi
          have HRi := Aside0.mk (hVi ▸ HE2.out.r i hi8)
          have HLi := Aside0.mk (hVi ▸ HL2.out i hi8)
          have HLn := Aside0.mk (HE2.out.len i hi8)
          have HI8 := Aside0.mk hi8
          clear hVi hi8
          go_wp2
          obtain ⟨wp, rfl⟩ : ∃ wp : World, wp = wr := ⟨_, rfl⟩
          go_loopg [22] 8 (fun gk v22 wr => ∃ k : Nat, v22 = .int .i64 (k : Int) ∧ Aside0 (k + gk = 8) ∧ Aside0 (KW w2.heap.size wo wr (SB V i)))
          case atStart => exact ⟨0, rfl, ⟨rfl⟩, HQ⟩
          case round =>
            clear HQ
            obtain ⟨k, rfl, HJ, HQ⟩ := hrel
            cases gk with
            | zero =>
              obtain rfl : k = 8 := by have := HJ.out; omega
              go_wp2
              obtain ⟨wt, rfl⟩ : ∃ wt : World, wt = wr := ⟨_, rfl⟩
              have HRn := Aside0.mk (R_keptS HRi.out HQ.out.kept (HVi.out ▸ ap_SB HE2.out HI8.out))
              go_loopg [23] (X i).length (fun gk v23 wr => ∃ (k : Nat) (ys : List Int), v23 = .int .i64 (k : Int) ∧ Aside0 (k + gk = (X i).length) ∧ Aside0 (KW w2.heap.size wo wr (SB V (i + 1))) ∧ Aside0 (ys.length = (X i).length) ∧ Aside0 (Kd.R (Kd.int .u64) 46 wr w2.heap.size (fun _ => True) (.slice Ai (X i).length ci) ys))
              case atStart => exact ⟨0, X i, rfl, ⟨Nat.zero_add _⟩, ⟨HQ.out.mono (SB_up V i)⟩, ⟨rfl⟩, HRn⟩
              case round =>
                clear HQ HRn
                obtain ⟨k, ys, rfl, HJ2, HQ, HYL, HY2⟩ := hrel
                have hcl : wr.cell? ⟨gL, i, none⟩ = some (.slice Ai (X i).length ci) := cell_kept HLi.out HQ.out.kept (fun ⟨j, hj, e⟩ => (HSM.out j (by have := HI8.out; omega) _ e).2.2 rfl)
                have hw1 : 1000 + (i : Int) < 2000 := by have := HI8.out; omega
                have hw0 : 0 ≤ 1000 + (i : Int) := by omega
                cases gk with
                | zero =>
                  obtain rfl : k = (X i).length := by have := HJ2.out; omega
                  have hdn : decide ((X i).length < (X i).length) = false := decide_eq_false (by omega)
                  have hdz : decide (((X i).length : Int) < ((X i).length : Int)) = false := decide_eq_false (by omega)
                  go_wp2_with (first | ((with_reducible refine gate_dst (N := 135) rfl ?_); refine Kd.R_lit (Kd.int .u64) wr.heap.size 46 ?hg (N := 135) ?hd (w0 := wr) (xs := ([5, (i : Int)] : List Int)) (inner := [.int .u64 5, .int .u64 (i : Int)]) (ok := fun k_ => wr.heap.size ≤ k_) (okp := fun k_ => wr.heap.size ≤ k_) ?hr ?hp (fun _ hk => hk) (Nat.le_refl _) (Below.refl _ _) (Nat.le_refl _) (by simp) ?_; (case hd => rfl); (case hg => rfl); (case hr => first | (go_simp; done) | (go_simp; rfl)); (case hp => exact Reps.one rfl (Reps.one rfl (Reps.none _ _))); intro v135 w6 ho hb hg_ hnew_; clear hg_ hnew_; obtain ⟨A5, c5, e5⟩ := Kd.R_slice ho; subst e5; have HN := Aside0.mk ho; have HB6 := Aside0.mk hb; clear ho hb) | ((with_reducible refine gate_builtin (b := .append) (xs := #[.tmp 132, .tmp 135]) rfl ?_); at_builtin; refine Kd.R_append_rows (Kd.int .u64) (w0 := wo) w2.heap.size rfl (.tmp 132) (.tmp 135) 22 46 (.int .u64 0) 8 rfl Try.underlying22 info46 rfl (by decide) (by omega) (.slice Ai (X i).length ci) ys [5, (i : Int)] A5 _ c5 (fun _ => True) (fun _ => False) rfl rfl ?aO ?aR (fun _ _ h => h) (fun _ h => h.elim) ?aF ?aB ?aS ?aL ?_; (case aR => exact (Kd.R_reads' HN.out).2.2); (case aB => exact (HQ.out.step HB6.out).below); (case aF => exact (fun _ hk => trivial)); (case aO => exact (Kd.R_below HY2.out HB6.out)); (case aS => exact (HQ.out.step HB6.out).size); (case aL => have := HYL.out; have := HLn.out; simp only [List.length_cons, List.length_nil]; omega); intro v136 w7 ho hb hg hat; have HQ7 := Aside0.mk ((HQ.out.step HB6.out).grown hg (fun b hb => ⟨i, by omega, by rw [HVi.out]; exact hb⟩) (fun b hb => SB_base HSM.out (by have := HI8.out; omega) hb)); have hcl7 : w7.cell? ⟨gL, i, none⟩ = some (.slice Ai (X i).length ci) := cell_kept HLi.out HQ7.out.kept (fun ⟨j, hj, e⟩ => (HSM.out j (by have := HI8.out; omega) _ e).2.2 rfl); obtain ⟨g7, c7, e7, gb7, gl7, cl7, HG7⟩ := Kd.R_form ho (by simp); have hlen7 : (ys ++ [5, (i : Int)]).length = (X i).length + 2 := (by rw [List.length_append, HYL.out]; rfl); rw [hlen7] at e7; subst e7; have pn7 : 0 ≤ ((X i).length : Int) := (by omega); have qn7 : ((X i).length : Int) < (((X i).length + 2 : Nat) : Int) := (by omega); obtain ⟨hx7, hf7⟩ := Kd.R_celln 0 ho ((X i).length : Int) pn7 qn7; rw [Int.toNat_natCast] at hx7 hf7; replace pn7 := eq_true pn7; replace qn7 := eq_true qn7; have qm7 : ((X i).length : Int) < ((X i).length : Int) + 2 := (by omega); have HP7 := Aside0.mk (show SB V (i + 1) g7 ∨ wo.heap.size ≤ g7 from by rcases hat with hat | ⟨b, hb2, hb3⟩; exact .inl ⟨i, by omega, by rw [HVi.out]; exact hat.symm⟩; exact .inr (Nat.le_trans (HQ.out.step HB6.out).kept.1 (by have e_ : g7 = b := Option.some.inj hb2; rw [e_]; exact hb3))); clear hlen7 HG7 cl7 gb7 gl7; clear hb ho hg hat))
                  go_roundg gk'
                  case measure => omega
                  case rel => exact ⟨i + 1, by first | (congr 1; done) | (congr 1; have := HI8.out; unfold wrap64; omega), ⟨by have := HI.out; omega⟩, ⟨HQ7.out.put (fun b hb => SB_base HSM.out (by have := HI8.out; omega) hb) HP7.out _ _⟩⟩
                | succ gk'' =>
                  have hkl : k < (X i).length := by have := HJ2.out; omega
                  have hdn : decide (k < (X i).length) = true := decide_eq_true hkl
                  have hdz : decide ((k : Int) < ((X i).length : Int)) = true := decide_eq_true (by omega)
                  obtain ⟨go, co, eo, gb, gl, cl, HG⟩ := Kd.R_form HY2.out (by rw [HYL.out]; omega)
                  rw [HYL.out] at eo
                  injection eo with ea_ en_ ec_
                  subst ea_ ec_
                  clear en_ gb gl HG cl
                  have pk : 0 ≤ (k : Int) := by omega
                  have qk : (k : Int) < ((X i).length : Int) := by omega
                  obtain ⟨hxk, hfk⟩ := Kd.R_celln 0 HY2.out (k : Int) pk qk
                  rw [Int.toNat_natCast] at hxk hfk
                  have HP := Kd.R_putg HY2.out (k : Int) (1000 + (i : Int))
                  rw [Int.toNat_natCast] at HP
                  have HP1 := Aside0.mk HP.1
                  have HP2 := Aside0.mk HP.2
                  replace pk := eq_true pk
                  replace qk := eq_true qk
                  clear HP hkl
                  go_wp2
                  go_roundg gk''
                  case measure => omega
                  case rel => exact ⟨k + 1, ys.set k (1000 + (i : Int)), by congr 1; have := HJ2.out; have := HLn.out; unfold wrap64; omega, ⟨by have := HJ2.out; omega⟩, ⟨HQ.out.grown HP2.out (fun b hb => ⟨i, by omega, by rw [HVi.out]; injection hb with hb; subst hb; rfl⟩) (fun b hb => SB_base HSM.out (by have := HI8.out; omega) hb)⟩, ⟨by rw [List.length_set]; exact HYL.out⟩, HP1⟩
            | succ gk'' =>
              have hk8 : k < 8 := by have := HJ.out; omega
              have HK8 := Aside0.mk hk8
              have hdk : decide ((k : Int) < 8) = true := decide_eq_true (by omega)
              have pk : (0 ≤ (k : Int)) = True := eq_true (by omega)
              have qk : ((k : Int) < 8) = True := eq_true (by omega)
              by_cases hik : i ≤ k
              · have HIK := Aside0.mk hik
                have hge : decide ((i : Int) ≤ (k : Int)) = true := decide_eq_true (by omega)
                have hge2 : decide (i ≤ k) = true := decide_eq_true (by omega)
                have HRk := HE2.out.r k hk8
                obtain ⟨Ak, ck, hVk⟩ := Kd.R_slice HRk
                have HA := Aside0.mk (R_keptS HRk HQ.out.kept (ap_SB' HE2.out hk8 hik HI8.out))
                have hcl : wr.cell? ⟨gL, k, none⟩ = some (V k) := cell_kept (HL2.out k hk8) HQ.out.kept (fun ⟨j, hj, e⟩ => (HSM.out j (by have := HI8.out; omega) _ e).2.2 rfl)
                obtain ⟨vw, hcw, hrw⟩ := (HK.out.kept HQ.out.kept (fun b ⟨j, hj, e⟩ => (HSM.out j (by have := HI8.out; omega) _ e).2.1)).at_ k hk8
                obtain ⟨Bk, dk, eBk⟩ := Kd.R_slice hrw
                subst eBk
                rw [hVk] at hcl HA
                have HX1 := Aside0.mk (Kd.R_reads' HA.out).2
                have HX2 := Aside0.mk (Kd.R_reads' hrw).2
                have HLk := Aside0.mk (HE2.out.len k hk8)
                clear hik hk8 HRk hVk HA hrw
                go_wp2
                refine wp_region_quiet_lit (by kernel_rfl) (by kernel_rfl) ?_
                repeat (quiet_step (fail))
                refine wpQuiet_step (fun K hK => ?_)
                go_simp
                refine ⟨.bool true, fun _ => ?_, hK _ ?_⟩
                go_at_call 15
                refine Calls.quiet_of ?_
                with_reducible refine (quipuref01_Same.calls ((X k).length + 1) _ _ (X k) _ _ (X k) true _ (Kd.C_drewN HX1.out.2 _) HX1.out.1 (Kd.C_drewN HX2.out.2 _) HX2.out.1 (same_true (X k) HLk.out)).mono ?_
                exact fun e w2 h => ⟨h.1, h.2.out⟩
                clear hK K
                repeat (quiet_step (fail))
                refine wpQuiet_nil ?_
                intro _ hw'
                obtain ⟨nq, hw''⟩ := hw'
                subst hw''
                go_wp2
                go_roundg gk''
                case measure => omega
                case rel => exact ⟨k + 1, by congr 1; have := HJ.out; unfold wrap64; omega, ⟨by have := HJ.out; omega⟩, ⟨HQ.out.step (pw_below_drewN (Below.refl _ _) _)⟩⟩
              · have hge : decide ((i : Int) ≤ (k : Int)) = false := decide_eq_false (by omega)
                have hge2 : decide (i ≤ k) = false := decide_eq_false (by omega)
                clear hik hk8
                go_wp2
                go_quiet (fail)
                go_wp2
                go_roundg gk''
                case measure => omega
                case rel => exact ⟨k + 1, by congr 1; have := HJ.out; unfold wrap64; omega, ⟨by have := HJ.out; omega⟩, ⟨HQ.out.step (pw_below_drewN (Below.refl _ _) _)⟩⟩
    | succ gk' =>
      have hi8 : i < 8 := by have := HI.out; omega
      have hd : decide ((i : Int) < 8) = true := decide_eq_true (by omega)
      have p1 : (0 ≤ (i : Int)) = True := eq_true (by omega)
      have q1 : ((i : Int) < 8) = True := eq_true (by omega)
      obtain ⟨Ai, ci, hVi⟩ := Kd.R_slice (HE.out.r i hi8)
      have HRi := Aside0.mk (hVi ▸ HE.out.r i hi8)
      have HLi := Aside0.mk (hVi ▸ HL.out i hi8)
      have HLn := Aside0.mk (HE.out.len i hi8)
      clear hVi hi8
      obtain ⟨Aw, cw, eW⟩ := Kd.R_slice HO.out
      rw [List.length_map, List.length_range] at eW
      subst eW
      go_wp2_with (first | ((with_reducible refine gate_dst (N := 76) rfl ?_); refine Kd.R_lit (Kd.int .u64) wr.heap.size 46 ?hg (N := 76) ?hd (w0 := wr) (xs := ([] : List Int)) (inner := []) (ok := fun k_ => wr.heap.size ≤ k_) (okp := fun k_ => wr.heap.size ≤ k_) ?hr ?hp (fun _ hk => hk) (Nat.le_refl _) (Below.refl _ _) (Nat.le_refl _) (by simp) ?_; (case hd => rfl); (case hg => rfl); (case hr => first | (go_simp; done) | (go_simp; rfl)); (case hp => exact (Reps.none _ _)); intro v76 w6 ho hb hg_ hnew_; clear hg_ hnew_; have HN := Aside0.mk ho; have HB6 := Aside0.mk hb; have hc6 : w6.cell? ⟨gL, i, none⟩ = _ := (World.cell?_of_block ((below_step HB.out hb).block gL HGS.out)).trans HLi.out; clear ho hb) | ((with_reducible refine gate_builtin (b := .append) (xs := #[.tmp 76, .tmp 80]) rfl ?_); at_builtin; refine Kd.R_append_rows (Kd.int .u64) (w0 := wr) wr.heap.size rfl (.tmp 76) (.tmp 80) 22 46 (.int .u64 0) 8 rfl Try.underlying22 info46 rfl (by decide) (by omega) v76 [] (X i) Ai _ ci (fun k_ => wr.heap.size ≤ k_) (fun _ => False) rfl rfl ?aO ?aR (fun _ _ h => h) (fun _ h => h.elim) ?aF ?aB ?aS ?aL ?_; (case aR => exact (Kd.C_below (Kd.C_below (Kd.R_reads' HRi.out).2.2 HB.out) HB6.out)); (case aB => exact HB6.out); (case aF => exact (fun _ hk => Nat.le_trans HB6.out.size hk)); (case aO => exact HN.out); (case aS => exact HB6.out.size); (case aL => have := HLn.out; simp only [List.length_nil]; omega); intro v81 w7 ho hb hg hat; rw [List.nil_append] at ho; obtain ⟨A81, c81, rfl⟩ := Kd.R_slice ho; have HM := Aside0.mk ho; clear HB6 HN hc6; have HB7 := Aside0.mk hb; clear ho hb hg hat) | ((with_reducible refine gate_builtin (b := .append) (xs := #[.tmp 75, .tmp 82]) rfl ?_); at_builtin; refine Kd.R_append (Kd.slice 46 (Kd.int .u64)) (w0 := w10) w10.heap.size rfl (.tmp 75) (.tmp 82) 49 22 (.slice none 0 0) 24 rfl Try.underlying49 info22 rfl (by decide) (by omega) (.slice Aw i cw) ((List.range i).map X) (X i) [.slice A81 (X i).length c81] (fun k_ => w10.heap.size ≤ k_) (fun k_ => wr.heap.size ≤ k_) rfl rfl ?aP ?aQ ?aF ?aO ?aB ?aS ?aL ?_; (case aP => exact ⟨_, rfl, Kd.R_lower HM.out HB.out.size⟩); (case aQ => exact (fun k_ hk => ⟨Nat.le_trans HB.out.size hk, fun e_ => absurd (Kd.R_lt HO.out k_ e_.symm) (Nat.not_lt.2 hk)⟩)); (case aB => exact (below_step HB.out HB7.out)); (case aF => exact (fun _ hk => Nat.le_trans (below_step HB.out HB7.out).size hk)); (case aO => exact (Kd.R_below HO.out HB7.out)); (case aS => exact (below_step HB.out HB7.out).size); (case aL => simp only [List.length_map, List.length_range]; have := HI.out; omega); intro v83 w8_ ho hb hg hat; have HO_ := Aside0.mk ho; clear HO HB HB7 HM; have HO := HO_; have HB := Aside0.mk hb; clear HO_ ho hb hg hat))
      go_roundg gk'
      case measure => omega
      case rel => exact ⟨i + 1, by congr 1; have := HI.out; unfold wrap64; omega, ⟨by have := HI.out; omega⟩, ⟨by rw [List.range_succ, List.map_append]; exact HO.out⟩, HB⟩
end Go.Proofs.Ytfaknblpkegekaa.Q
end
section
namespace Go.Proofs.Ytfaknblpkegekaa.Q
open Go.RowKit Go.Proofs.YtfaknblpkegekaaW.PrintWords Go.Proofs.YtfaknblpkegekaaW.PrintLast Go.Proofs.YtfaknblpkegekaaW.PrintMore
theorem keeps (A0 : Option Addr) (c0 : Nat) (l0 : List Int) (A1 : Option Addr) (c1 : Nat) (l1 : List Int) (n : Int) (w : World) (hr0 : Kd.C (Kd.int .u64) w A0 l0.length l0) (hc0 : l0.length ≤ c0) (hr1 : Kd.C (Kd.int .u64) w A1 l1.length l1) (hc1 : l1.length ≤ c1) (m0 : Lim l0) (m1 : Lim l1) (n0 : l0.length ≤ 1048576) (n1 : l1.length ≤ 1048576) (hw : (Lit.int .i64 n).wf = true) :
    Calls Try.prog 10 #[.slice A0 l0.length c0, .slice A1 l1.length c1, .int .i64 n] w fun e w' => e = .returned (.bool true) ∧ Below w.heap.size w w' := by
  have hn : n < 9223372036854775808 := by
    have h1 : IntKind.i64.min ≤ n ∧ n ≤ IntKind.i64.max := by simpa [Lit.wf] using hw
    have e1 : IntKind.i64.max = 9223372036854775807 := by decide
    omega
  obtain ⟨q, r, d, s, t, no, ad, mu, e, f, g, h, K, a1, a2, a3, a4, a5, a6, a7, b1, b2, b3, b4, b5, b6, b7, b8⟩ := answers l0 l1 n m0 m1 n0 n1 hn
  exact keeps_walk A0 c0 l0 A1 c1 l1 n q r d s t no ad mu e f g h K w hr0 hc0 hr1 hc1 m0 m1 n0 n1 a1 a2 a3 a4 a5 a6 a7 b1 b2 b3 b4 b5 b6 b7 b8
end Go.Proofs.Ytfaknblpkegekaa.Q
end
