/- The walk of quipulaw13.AffixTells: where the calls answer as the document's do, it tells true. -/
import Derived.Test.YtieipeigjhicfaaRw
namespace Go.Proofs.Ytieipeigjhicfaa.Q
open Go.RowKit Go.Proofs.YtieipeigjhicfaaW.PrintWords Go.Proofs.YtieipeigjhicfaaW.PrintLast Go.Proofs.YtieipeigjhicfaaW.PrintMore
attribute [local go_sem] max2_int min2_int max_two min_two max_three min_three max_four min_four
set_option linter.unusedVariables false
set_option linter.unusedSimpArgs false
def markT : S32 := ⟨-7, 0, ⟨#[]⟩⟩
theorem cut_cap {P : Program} (t e : TypeId) (kh : IntKind) {i : TypeInfo} (ht : P.underlying t = some (.slice e)) (hi : P.info? e = some i) (A : Option Addr) (n c : Nat) (j : Int) (h0 : 0 ≤ j) (hm : j ≤ c) :
    ∀ W : World, (Instr.slice t (.slice A n c) none (some (.int kh j)) none).run P W = .ok (.slice A j.toNat c) W := by
  intro W
  have hel : P.elem t = e := by simp [Program.elem, ht]
  have hu : P.underlying t = some (.slice (P.elem t)) := by rw [hel]; exact ht
  have ha : (A.map fun x => x.add 0) = A := by cases A <;> simp [Addr.add]
  rw [run_slice_h W t A n c hu kh j h0 (by omega), hel]
  simp [sizeOf, typeInfo, hi, sliced, Result.andThen, ha]
set_option maxHeartbeats 8000000 in
set_option maxRecDepth 100000 in
theorem copied_own (A0 : Option Addr) (c0 : Nat) (l0 : List S32) (w : World) (hr0 : Kd.C k32 w A0 l0.length l0) (hc0 : l0.length ≤ c0) (hl : l0.length < 4398046511103) :
    Calls Try.prog 8 #[.slice A0 l0.length c0] w fun e w' => ∃ g c, e = .returned (.slice (some ⟨g, 0, none⟩) l0.length c) ∧ Kd.R k32 32 w' w.heap.size (fun _ => True) (.slice (some ⟨g, 0, none⟩) (l0.length + 1) c) (l0 ++ [markT]) ∧ Below w.heap.size w w' := by
  have hu32 := Try.underlying32
  have HR0 := Aside0.mk hr0
  have HC0 := Aside0.mk hc0
  have HL := Aside0.mk hl
  clear hr0 hc0 hl
  have HB := Aside0.mk (Below.refl w.heap.size w)
  go_enter Try.func8, Try.ntmps8
  go_wp2_with (first | ((with_reducible refine gate_dst (N := 3) rfl ?_); refine Kd.R_lit k32 _ 32 ?hg (N := 3) ?hd (xs := ([] : List (S32))) (inner := []) (ok := fun _ => True) (okp := fun _ => True) ?hr ?hp (fun _ hk => hk) trivial (Below.refl _ _) (Nat.le_refl _) (by simp) ?_; (case hd => rfl); (case hg => rfl); (case hr => first | (go_simp; done) | (go_simp; rfl)); (case hp => exact (Reps.none _ _)); intro v102 w6 ho7 hb hg_ hnew_; clear hg_ hnew_; have n0_ := Aside0.mk (Kd.R_lower ho7 (below_size (by repeat (first | (with_reducible first | exact HB.out | apply below_alloc | apply pw_below_drewN | apply below_drew1) | exact HB.out)))); have n1_ := Aside0.mk (below_step (by repeat (first | (with_reducible first | exact HB.out | apply below_alloc | apply pw_below_drewN | apply below_drew1) | exact HB.out)) hb); clear HB; have HO103 := n0_; have HB := n1_; clear n0_ n1_; clear hb ho7) | ((with_reducible refine gate_builtin (b := .append) (xs := #[.tmp 3, .tmp 4]) rfl ?_); at_builtin; refine Kd.R_append_rows k32 (w0 := w) w.heap.size rfl (.tmp 3) (.tmp 4) 22 32 (.agg #[(.int .i64 0), (.int .i64 0), (.string ⟨#[]⟩)]) 32 rfl Try.underlying22 info32 rfl (by decide) (by omega) v102 [] l0 _ _ _ (fun _ => True) (fun _ => False) rfl rfl ?aO ?aR (fun _ _ h => h) (fun _ h => h.elim) ?aF ?aB ?aS ?aL ?_; (case aR => exact (by repeat (first | exact (Kd.C_below HR0.out HB.out) | (with_reducible refine Kd.C_alloc ?_ _) | (with_reducible refine Kd.C_drewN ?_ _) | (with_reducible refine Kd.C_drew ?_)))); (case aB => exact (by repeat (first | (with_reducible first | exact HB.out | apply below_alloc | apply pw_below_drewN | apply below_drew1) | exact HB.out))); (case aF => exact (fun _ _ => trivial)); (case aO => exact (by (with_reducible repeat (first | apply Kd.R_alloc | apply Kd.R_drewN | apply Kd.R_drew)); exact HO103.out)); (case aS => exact (below_size (by repeat (first | (with_reducible first | exact HB.out | apply below_alloc | apply pw_below_drewN | apply below_drew1) | exact HB.out)))); (case aL => have := HL.out; simp only [List.length_nil]; omega); intro v105 w8 ho hb hg hat; rw [List.nil_append] at ho; have n0_ := Aside0.mk (hb); have n1_ := Aside0.mk (ho); clear HB; clear HO103; have HB := n0_; have HO106 := n1_; clear n0_ n1_; clear ho hb hg hat) | ((with_reducible refine gate_builtin (b := .append) (xs := #[.tmp 5, .tmp 7]) rfl ?_); at_builtin; refine Kd.R_append k32 (w0 := w) w.heap.size rfl (.tmp 5) (.tmp 7) 22 32 (.agg #[(.int .i64 0), (.int .i64 0), (.string ⟨#[]⟩)]) 32 rfl Try.underlying22 info32 rfl (by decide) (by omega) v105 l0 (⟨(-7), 0, (⟨#[]⟩ : ByteArray)⟩ : S32) [.int .i64 (-7), .int .i64 0, .string (⟨#[]⟩ : ByteArray)] (fun _ => True) (fun _ => False) rfl rfl ?aP (fun _ hk => hk.elim) ?aF ?aO ?aB ?aS ?aL ?_; (case aP => exact k32_mkM _ _ _ (⟨(-7), 0, (⟨#[]⟩ : ByteArray)⟩ : S32)); (case aB => exact (by repeat (first | (with_reducible first | exact HB.out | apply below_alloc | apply pw_below_drewN | apply below_drew1) | exact HB.out))); (case aF => exact (fun _ _ => trivial)); (case aO => exact (by (with_reducible repeat (first | apply Kd.R_alloc | apply Kd.R_drewN | apply Kd.R_drew)); exact HO106.out)); (case aS => exact (below_size (by repeat (first | (with_reducible first | exact HB.out | apply below_alloc | apply pw_below_drewN | apply below_drew1) | exact HB.out)))); (case aL => have := HL.out; omega); intro v108 w9 ho hb hg hat; have n0_ := Aside0.mk (hb); clear HB HO106; have HB := n0_; clear n0_ hb hg hat; obtain ⟨g9, c9, eg, _, _, _⟩ := Kd.R_form ho (by simp); have hlen9 : (l0 ++ [(⟨(-7), 0, (⟨#[]⟩ : ByteArray)⟩ : S32)]).length = l0.length + 1 := (by simp); rw [hlen9] at eg; subst eg; have HO109 := Aside0.mk ho; have hcc := (Kd.R_reads' ho).2.1; obtain ⟨i011, hi011, _, hsz11, _⟩ := info_parts info32; have hcut11 := cut_to (P := Try.prog) 22 32 .i64 Try.underlying22 hi011 (some ⟨g9, 0, none⟩) (l0.length + 1) c9 (l0.length : Int) (by omega) (by omega) hcc; rw [Int.toNat_natCast] at hcut11; have h00 : decide (0 ≤ (l0.length : Int)) = true := decide_eq_true (by omega); clear ho hcc hi011 hsz11 hlen9))
  go_ret
  exact ⟨_, _, rfl, HO109.out, (by repeat (first | (with_reducible first | exact HB.out | apply below_alloc | apply pw_below_drewN | apply below_drew1) | exact HB.out))⟩
theorem own_C {w : World} {base : Nat} {ok : Nat → Prop} {A : Option Addr} {c : Nat} {l : List S32} (h : Kd.R k32 32 w base ok (.slice A (l.length + 1) c) (l ++ [markT])) : Kd.C k32 w A l.length l := by
  have h2 := Kd.R_take (m := l.length) h (by rw [List.length_append]; omega)
  rw [List.take_left] at h2
  exact (Kd.R_reads' h2).2.2
set_option maxHeartbeats 8000000 in
set_option maxRecDepth 100000 in
theorem tells_walk (A0 : Option Addr) (c0 : Nat) (l m : List S32) (x y : Int) (s : ByteArray) (e c : Int) (b : Bool) (k1 k2 k3 k4 k5 k6 k8 k9 k10 : Nat) (w : World) (hG : Glob w) (hr0 : Kd.C k32 w A0 l.length l) (hc0 : l.length ≤ c0) (hl : l.length < 4398046511102) (hm : m = l.map (turnTok x y))
    (h1 : affix_Print.f k1 l = some (s, e)) (h2 : quipuref13_Print.f k2 l = some (s, e)) (h3 : quipuref13_Turn.f k3 l x y = some m) (h4 : affix_Check.f k4 l = some c) (h5 : quipuref13_Check.f k5 l = some c) (h6 : quipuref13_Same.f k6 m m = some true) (h7 : affix_Has.f l x = some b) (h8 : quipuref13_Has.f k8 l x = some b) (h9 : quipuref13_Same.f k9 l l = some true) (h10 : quipulaw13_fixed.f k10 = some true) :
    Calls Try.prog 3 #[.slice A0 l.length c0, .int .i64 x, .int .i64 y] w fun e w' => e = .returned (.bool true) ∧ Below w.heap.size w w' := by
  have hu32 := Try.underlying32
  have hu22 := Try.underlying22
  have HB := Aside0.mk (Below.refl w.heap.size w)
  have HG := Aside0.mk hG
  have HR0 := Aside0.mk hr0
  have HC0 := Aside0.mk hc0
  have HM := Aside0.mk hm
  have HML := Aside0.mk (show m.length = l.length by rw [hm, List.length_map])
  have H1 := Aside0.mk h1
  have H2 := Aside0.mk h2
  have H3 := Aside0.mk h3
  have H4 := Aside0.mk h4
  have H5 := Aside0.mk h5
  have H6 := Aside0.mk h6
  have H7 := Aside0.mk h7
  have H8 := Aside0.mk h8
  have H9 := Aside0.mk h9
  have H10 := Aside0.mk h10
  have HL := Aside0.mk (show l.length < 4398046511103 by omega)
  have HL2 := Aside0.mk (show l.length < 4398046511104 by omega)
  have he1 : (e != e) = false := by simp
  have he3 : (c != c) = false := by simp
  have he4 : (b != b) = false := by cases b <;> rfl
  have he5 : (s.toList != s.toList) = false := by simp
  have he6 : (s.toList == s.toList) = true := by simp
  have HT0 := Aside0.mk (show turned overT m 0 = m by simp [turned])
  clear hG hr0 hc0 hl hm h1 h2 h3 h4 h5 h6 h7 h8 h9 h10
  go_enter Try.func3, Try.ntmps3
  go_wp2_with (first | (go_at_call 8; (with_reducible refine (copied_own A0 c0 l _ (by repeat (first | exact (Kd.C_below HR0.out HB.out) | (with_reducible refine Kd.C_alloc ?_ _) | (with_reducible refine Kd.C_drewN ?_ _) | (with_reducible refine Kd.C_drew ?_))) HC0.out HL.out).mono ?_); rintro e w1 ⟨g1, c1, rfl, ho, hb⟩; have HCap := Aside0.mk (show l.length ≤ c1 by have := (Kd.R_reads' ho).2.1; omega); have HO := Aside0.mk (Kd.R_mono (ok' := fun k_ => k_ < w1.heap.size) (Kd.R_bound ho) (fun _ hk_ => hk_.2.2.1)); have HW := Aside0.mk (Nat.le_refl w1.heap.size); have nb_ := Aside0.mk (below_step (by repeat (first | (with_reducible first | exact HB.out | apply below_alloc | apply pw_below_drewN | apply below_drew1) | exact HB.out)) hb); clear HB; have HB := nb_; clear nb_ ho hb) | (go_at_call 9; (with_reducible refine (affix_Print.calls k1 (some ⟨g1, 0, none⟩) c1 l s e _ (Glob_below HG.out (by repeat (first | (with_reducible first | exact HB.out | apply below_alloc | apply pw_below_drewN | apply below_drew1) | exact HB.out))) (by repeat (first | exact (own_C HO.out) | (with_reducible refine Kd.C_alloc ?_ _) | (with_reducible refine Kd.C_drewN ?_ _) | (with_reducible refine Kd.C_drew ?_))) HCap.out H1.out).mono ?_); rintro e w2 ⟨rfl, hb⟩; have nw_ := Aside0.mk (Nat.le_trans HW.out hb.size); clear HW; have HW := nw_; clear nw_; have nb_ := Aside0.mk (below_step (by repeat (first | (with_reducible first | exact HB.out | apply below_alloc | apply pw_below_drewN | apply below_drew1) | exact HB.out)) hb); have n0_ := Aside0.mk (Kd.R_below (by (with_reducible repeat (first | apply Kd.R_alloc | apply Kd.R_drewN | apply Kd.R_drew)); exact HO.out) hb); clear HB; clear HO; have HB := nb_; have HO := n0_; clear nb_ n0_ hb) | (go_at_call 10; (with_reducible refine (quipuref13_Print.calls k2 A0 c0 l s e _ (by repeat (first | exact (Kd.C_below HR0.out HB.out) | (with_reducible refine Kd.C_alloc ?_ _) | (with_reducible refine Kd.C_drewN ?_ _) | (with_reducible refine Kd.C_drew ?_))) HC0.out H2.out).mono ?_); rintro e w3 ⟨rfl, hb⟩; have nw_ := Aside0.mk (Nat.le_trans HW.out hb.size); clear HW; have HW := nw_; clear nw_; have nb_ := Aside0.mk (below_step (by repeat (first | (with_reducible first | exact HB.out | apply below_alloc | apply pw_below_drewN | apply below_drew1) | exact HB.out)) hb); have n0_ := Aside0.mk (Kd.R_below (by (with_reducible repeat (first | apply Kd.R_alloc | apply Kd.R_drewN | apply Kd.R_drew)); exact HO.out) hb); clear HB; clear HO; have HB := nb_; have HO := n0_; clear nb_ n0_ hb) | (go_at_call 11; (with_reducible refine (turn_own (some ⟨g1, 0, none⟩) c1 l x y _ (by repeat (first | exact (own_C HO.out) | (with_reducible refine Kd.C_alloc ?_ _) | (with_reducible refine Kd.C_drewN ?_ _) | (with_reducible refine Kd.C_drew ?_))) HCap.out HL2.out).mono ?_); rintro e w4 ⟨v4, rfl, hc, hb⟩; rw [← HM.out] at hc; obtain ⟨A3, c3, ev, ho3⟩ := hc; subst ev; have HO3 := Aside0.mk (Kd.R_mono (ok' := fun k_ => w1.heap.size ≤ k_) (Kd.R_bound (Kd.R_lower ho3 (below_size (by repeat (first | (with_reducible first | exact HB.out | apply below_alloc | apply pw_below_drewN | apply below_drew1) | exact HB.out))))) (fun k_ hk_ => Nat.le_trans HW.out hk_.1)); have nb_ := Aside0.mk (below_step (by repeat (first | (with_reducible first | exact HB.out | apply below_alloc | apply pw_below_drewN | apply below_drew1) | exact HB.out)) hb); have n0_ := Aside0.mk (Kd.R_below (by (with_reducible repeat (first | apply Kd.R_alloc | apply Kd.R_drewN | apply Kd.R_drew)); exact HO.out) hb); clear HB; clear HO; have HB := nb_; have HO := n0_; clear nb_ n0_ hb; clear ho3 HW) | (go_at_call 12; (with_reducible refine (quipuref13_Turn.calls k3 A0 c0 l x y m _ (by repeat (first | exact (Kd.C_below HR0.out HB.out) | (with_reducible refine Kd.C_alloc ?_ _) | (with_reducible refine Kd.C_drewN ?_ _) | (with_reducible refine Kd.C_drew ?_))) HC0.out H3.out).mono ?_); rintro e w5 ⟨v5, rfl, ho, hb⟩; obtain ⟨A4, c4, ev⟩ := Kd.R_slice ho; subst ev; have HO4 := Aside0.mk ho; have nb_ := Aside0.mk (below_step (by repeat (first | (with_reducible first | exact HB.out | apply below_alloc | apply pw_below_drewN | apply below_drew1) | exact HB.out)) hb); have n0_ := Aside0.mk (Kd.R_below (by (with_reducible repeat (first | apply Kd.R_alloc | apply Kd.R_drewN | apply Kd.R_drew)); exact HO.out) hb); have n1_ := Aside0.mk (Kd.R_below (by (with_reducible repeat (first | apply Kd.R_alloc | apply Kd.R_drewN | apply Kd.R_drew)); exact HO3.out) hb); clear HB; clear HO HO3; have HB := nb_; have HO := n0_; have HO3 := n1_; clear nb_ n0_ n1_ hb; clear ho) | (go_at_call 13; (with_reducible refine (affix_Check.calls k4 (some ⟨g1, 0, none⟩) c1 l c _ (by repeat (first | exact (own_C HO.out) | (with_reducible refine Kd.C_alloc ?_ _) | (with_reducible refine Kd.C_drewN ?_ _) | (with_reducible refine Kd.C_drew ?_))) HCap.out H4.out).mono ?_); rintro e w6 ⟨rfl, hb⟩; have nb_ := Aside0.mk (below_step (by repeat (first | (with_reducible first | exact HB.out | apply below_alloc | apply pw_below_drewN | apply below_drew1) | exact HB.out)) hb); have n0_ := Aside0.mk (Kd.R_below (by (with_reducible repeat (first | apply Kd.R_alloc | apply Kd.R_drewN | apply Kd.R_drew)); exact HO.out) hb); have n1_ := Aside0.mk (Kd.R_below (by (with_reducible repeat (first | apply Kd.R_alloc | apply Kd.R_drewN | apply Kd.R_drew)); exact HO3.out) hb); have n2_ := Aside0.mk (Kd.R_below (by (with_reducible repeat (first | apply Kd.R_alloc | apply Kd.R_drewN | apply Kd.R_drew)); exact HO4.out) hb); clear HB; clear HO HO3 HO4; have HB := nb_; have HO := n0_; have HO3 := n1_; have HO4 := n2_; clear nb_ n0_ n1_ n2_ hb) | (go_at_call 14; (with_reducible refine (quipuref13_Check.calls k5 A0 c0 l c _ (by repeat (first | exact (Kd.C_below HR0.out HB.out) | (with_reducible refine Kd.C_alloc ?_ _) | (with_reducible refine Kd.C_drewN ?_ _) | (with_reducible refine Kd.C_drew ?_))) HC0.out H5.out).mono ?_); rintro e w7 ⟨rfl, hb⟩; have nb_ := Aside0.mk (below_step (by repeat (first | (with_reducible first | exact HB.out | apply below_alloc | apply pw_below_drewN | apply below_drew1) | exact HB.out)) hb); have n0_ := Aside0.mk (Kd.R_below (by (with_reducible repeat (first | apply Kd.R_alloc | apply Kd.R_drewN | apply Kd.R_drew)); exact HO.out) hb); have n1_ := Aside0.mk (Kd.R_below (by (with_reducible repeat (first | apply Kd.R_alloc | apply Kd.R_drewN | apply Kd.R_drew)); exact HO3.out) hb); have n2_ := Aside0.mk (Kd.R_below (by (with_reducible repeat (first | apply Kd.R_alloc | apply Kd.R_drewN | apply Kd.R_drew)); exact HO4.out) hb); clear HB; clear HO HO3 HO4; have HB := nb_; have HO := n0_; have HO3 := n1_; have HO4 := n2_; clear nb_ n0_ n1_ n2_ hb) | (go_at_call 15; (with_reducible refine (quipuref13_Same.calls k6 A3 m.length m A4 c4 m true _ ?side1 ?side2 ?side3 ?side4 H6.out).mono ?_); (case side1 => exact (Kd.R_reads' HO3.out).2.2); (case side2 => exact Nat.le_refl _); (case side3 => exact (Kd.R_reads' HO4.out).2.2); (case side4 => exact (Kd.R_reads' HO4.out).2.1); rintro e w8 ⟨rfl, ⟨nd, rfl⟩⟩) | (go_at_call 16; (with_reducible refine (affix_Has.calls (some ⟨g1, 0, none⟩) c1 l x b _ (by repeat (first | exact (own_C HO.out) | (with_reducible refine Kd.C_alloc ?_ _) | (with_reducible refine Kd.C_drewN ?_ _) | (with_reducible refine Kd.C_drew ?_))) HCap.out H7.out).mono ?_); rintro e w9 ⟨rfl, hb⟩; have nb_ := Aside0.mk (below_step (by repeat (first | (with_reducible first | exact HB.out | apply below_alloc | apply pw_below_drewN | apply below_drew1) | exact HB.out)) hb); have n0_ := Aside0.mk (Kd.R_below (by (with_reducible repeat (first | apply Kd.R_alloc | apply Kd.R_drewN | apply Kd.R_drew)); exact HO.out) hb); have n1_ := Aside0.mk (Kd.R_below (by (with_reducible repeat (first | apply Kd.R_alloc | apply Kd.R_drewN | apply Kd.R_drew)); exact HO3.out) hb); clear HB; clear HO HO3; have HB := nb_; have HO := n0_; have HO3 := n1_; clear nb_ n0_ n1_ hb; clear HO4) | (go_at_call 17; (with_reducible refine (quipuref13_Has.calls k8 A0 c0 l x b _ (by repeat (first | exact (Kd.C_below HR0.out HB.out) | (with_reducible refine Kd.C_alloc ?_ _) | (with_reducible refine Kd.C_drewN ?_ _) | (with_reducible refine Kd.C_drew ?_))) HC0.out H8.out).mono ?_); rintro e w10 ⟨rfl, ⟨nd2, rfl⟩⟩))
  go_loopg [14] m.length (fun gk v14 wr => ∃ i : Nat, v14 = .int .i64 i ∧ Aside0 (i + gk = m.length) ∧ Aside0 (Kd.R k32 32 wr w.heap.size (fun k_ => w1.heap.size ≤ k_) (.slice A3 m.length c3) (turned overT m i)) ∧ Aside0 (Kd.R k32 32 wr w.heap.size (fun k_ => k_ < w1.heap.size) (.slice (some ⟨g1, 0, none⟩) (l.length + 1) c1) (l ++ [markT])) ∧ Aside0 (Below w.heap.size w wr))
  case atStart => exact ⟨0, rfl, ⟨by omega⟩, ⟨by rw [HT0.out]; exact (by (with_reducible repeat (first | apply Kd.R_alloc | apply Kd.R_drewN | apply Kd.R_drew)); exact HO3.out)⟩, ⟨(by (with_reducible repeat (first | apply Kd.R_alloc | apply Kd.R_drewN | apply Kd.R_drew)); exact HO.out)⟩, ⟨(by repeat (first | (with_reducible first | exact HB.out | apply below_alloc | apply pw_below_drewN | apply below_drew1) | exact HB.out))⟩⟩
  case round =>
    clear HO HO3 HB
    obtain ⟨i, rfl, HI, HO3, HO, HB⟩ := hrel
    cases gk with
    | zero =>
      have hin : i = m.length := by have := HI.out; omega
      subst hin
      obtain ⟨inner, how⟩ := R_parts HO3.out
      rw [turned_len] at how
      have HOW := Aside0.mk how
      clear how HO3
      have pm : 0 ≤ (l.length : Int) := by omega
      have qm : (l.length : Int) < ((l.length + 1 : Nat) : Int) := by omega
      have qm2 : (l.length : Int) < ((l ++ [markT]).length : Int) := by rw [List.length_append, List.length_singleton]; omega
      have hlw : wrap64 ((l.length : Int) + 1) = ((l.length + 1 : Nat) : Int) := by have := HL.out; unfold wrap64; omega
      have e1 : (((m.length + 1 : Nat) : Int) == wrap64 ((l.length : Int) + 1)) = true := by rw [hlw, HML.out]; exact beq_iff_eq.mpr rfl
      have e2 : ((m.length : Int) + 1 == wrap64 ((l.length : Int) + 1)) = true := by rw [hlw]; have := HML.out; exact beq_iff_eq.mpr (by omega)
      obtain ⟨i011, hi011, _, hsz11, _⟩ := info_parts info32
      have hcut11 := cut_cap (P := Try.prog) 22 32 .i64 Try.underlying22 hi011 (some ⟨g1, 0, none⟩) l.length c1 (wrap64 ((l.length : Int) + 1)) (by rw [hlw]; omega) (by rw [hlw]; have := (Kd.R_reads' HO.out).2.1; omega)
      rw [show (wrap64 ((l.length : Int) + 1)).toNat = l.length + 1 by rw [hlw]; rfl] at hcut11
      have HRD := Aside0.mk (show ((l ++ [markT]).getD l.length z32).f0 = -7 by simp [List.getD, markT])
      clear hlw hi011 hsz11
      go_wp2_with (first | ((with_reducible refine gate_builtin (b := .append) (xs := #[.tmp 75, .tmp 77]) rfl ?_); at_builtin; refine clip_append w.heap.size rfl (.tmp 75) (.tmp 77) 22 32 (.agg #[(.int .i64 0), (.int .i64 0), (.string ⟨#[]⟩)]) 3 32 rfl Try.underlying22 info32 (by decide) (by decide) A3 m.length c3 inner [.int .i64 (-9), .int .i64 0, .string ⟨#[]⟩] rfl rfl rfl ?aO ?aL ?_; (case aO => exact HOW.out); (case aL => have := HL.out; have := HML.out; omega); intro A4 c4 w11 hb; have nb_ := Aside0.mk (below_step (by repeat (first | (with_reducible first | exact HB.out | apply below_alloc | apply pw_below_drewN | apply below_drew1) | exact HB.out)) hb); have n0_ := Aside0.mk (Kd.R_below (by (with_reducible repeat (first | apply Kd.R_alloc | apply Kd.R_drewN | apply Kd.R_drew)); exact HO.out) hb); clear HB; clear HO; have HB := nb_; have HO := n0_; clear nb_ n0_ hb; obtain ⟨ce, hcl, hM, hcc, hfr⟩ := Kd.R_elem HO.out z32 (l.length : Int) pm qm; obtain rfl := k32_openM hM; have hx0 := hcc 0 _ rfl; simp only [show (k32).sz = 3 from rfl, Nat.mul_one, Nat.add_zero, Int.toNat_natCast] at hx0; rw [HRD.out] at hx0; clear hcl hM hcc hfr qm2; replace pm := eq_true pm; replace qm := eq_true qm) | (go_at_call 15; (with_reducible refine (quipuref13_Same.calls k9 (some ⟨g1, 0, none⟩) c1 l A0 c0 l true _ ?side1 ?side2 ?side3 ?side4 H9.out).mono ?_); (case side1 => exact (by repeat (first | exact (own_C HO.out) | (with_reducible refine Kd.C_alloc ?_ _) | (with_reducible refine Kd.C_drewN ?_ _) | (with_reducible refine Kd.C_drew ?_)))); (case side2 => exact HCap.out); (case side3 => exact (by repeat (first | exact (Kd.C_below HR0.out HB.out) | (with_reducible refine Kd.C_alloc ?_ _) | (with_reducible refine Kd.C_drewN ?_ _) | (with_reducible refine Kd.C_drew ?_)))); (case side4 => exact HC0.out); rintro e w12 ⟨rfl, ⟨nd3, rfl⟩⟩) | (go_at_call 18; (with_reducible refine (quipulaw13_fixed.calls k10 true _ (Glob_below HG.out (by repeat (first | (with_reducible first | exact HB.out | apply below_alloc | apply pw_below_drewN | apply below_drew1) | exact HB.out))) H10.out).mono ?_); rintro e w13 ⟨rfl, hb⟩; have nb_ := Aside0.mk (below_step (by repeat (first | (with_reducible first | exact HB.out | apply below_alloc | apply pw_below_drewN | apply below_drew1) | exact HB.out)) hb); clear HB; have HB := nb_; clear nb_ hb))
      go_ret
      exact ⟨rfl, (by repeat (first | (with_reducible first | exact HB.out | apply below_alloc | apply pw_below_drewN | apply below_drew1) | exact HB.out))⟩
    | succ gk' =>
      have hlt : i < m.length := by have := HI.out; omega
      have hlt' : i < (turned overT m i).length := by rw [turned_len]; exact hlt
      have HT := Aside0.mk (turned_step overT m i hlt)
      obtain ⟨g, cap, eg, gb, gl, _⟩ := Kd.R_form HO3.out (by omega)
      have eA : A3 = some ⟨g, 0, none⟩ := by injection eg
      subst eA
      clear eg
      have GW := Aside0.mk (And.intro gb (HO3.out.1 g rfl))
      have hd : decide ((i : Int) < (m.length : Int)) = true := decide_eq_true (by omega)
      have hd2 : decide (i < m.length) = true := decide_eq_true hlt
      have p1 : 0 ≤ (i : Int) := by omega
      have q1 : (i : Int) < (m.length : Int) := by omega
      clear hlt hlt' gb gl
      obtain ⟨ce, hcl, hM, hcc, hfr⟩ := Kd.R_elem HO3.out z32 (i : Int) p1 q1
      obtain rfl := k32_openM hM
      have hx0 := hcc 0 _ rfl
      have hx1 := hcc 1 _ rfl
      have hx2 := hcc 2 _ rfl
      (try simp only [show (k32).sz = 3 from rfl, Nat.mul_one, Nat.add_zero, Int.toNat_natCast] at hx0 hx1 hx2)
      have hf0 := hfr 0
      have hf1 := hfr 1
      have hf2 := hfr 2
      (try simp only [show (k32).sz = 3 from rfl, Nat.mul_one, Nat.add_zero, Int.toNat_natCast] at hf0 hf1 hf2)
      have HS := Kd.R_seg HO3.out (i : Int) p1 q1 (seg := [.int .i64 (-8), .int .i64 0, .string ⟨#[]⟩]) (j := 0) hcl hcc (show 3 ≤ 3 from by decide) (x' := (⟨-8, 0, ⟨#[]⟩⟩ : S32)) (k32_mkM _ _ _ (⟨-8, 0, ⟨#[]⟩⟩ : S32)) (fun _ hk => hk)
      clear hcl hcc hfr hM
      replace p1 := eq_true p1
      replace q1 := eq_true q1
      have HS2 := Aside0.mk (R_far3 HO.out g (fun k_ hk_ => Nat.ne_of_lt (Nat.lt_of_lt_of_le hk_ GW.out.2)) ((i : Int).toNat * 3) ((i : Int).toNat * 3 + 1) ((i : Int).toNat * 3 + 2) (.int .i64 (-8)) (.int .i64 0) (.string ⟨#[]⟩))
      have HS3 := Aside0.mk (below_set (j := (i : Int).toNat * 3 + 2) (v := .string ⟨#[]⟩) (below_set (j := (i : Int).toNat * 3 + 1) (v := .int .i64 0) (below_set (j := (i : Int).toNat * 3) (v := .int .i64 (-8)) (HB.out) GW.out.1) GW.out.1) GW.out.1)
      go_wp2_with (first | ((with_reducible refine gate_store (t := 32) (p := 74) rfl ?_); refine store_event (t := 32) (p := 74) (v := ?vo_w12) (w1 := (((wr.setCell ⟨g, (i : Int).toNat * 3, none⟩ (.int .i64 (-8))).setCell ⟨g, (i : Int).toNat * 3 + 1, none⟩ (.int .i64 0)).setCell ⟨g, (i : Int).toNat * 3 + 2, none⟩ (.string ⟨#[]⟩))) ?hg ?ho ?hn ?hr ?_; (case ho => rfl); (case hg => rfl); (case hn => rfl); (case hr => first | (go_simp; done) | (go_simp; rfl)); intro w12 hw; have n0_ := Aside0.mk (show Kd.R k32 32 w12 w.heap.size (fun k_ => w1.heap.size ≤ k_) (.slice (some ⟨g, 0, none⟩) m.length c3) ((turned overT m i).set (i : Int).toNat (⟨-8, 0, ⟨#[]⟩⟩ : S32)) from by rw [hw]; exact HS.1); have n1_ := Aside0.mk ((by rw [hw]; exact HS3.out : Below w.heap.size w w12)); have n2_ := Aside0.mk (show Kd.R k32 32 w12 w.heap.size (fun k_ => k_ < w1.heap.size) (.slice (some ⟨g1, 0, none⟩) (l.length + 1) c1) (l ++ [markT]) from by rw [hw]; exact HS2.out); clear HS; clear HO; clear HO3; clear HB; have HO3 := n0_; have HB := n1_; have HO := n2_; clear n0_ n1_ n2_ hw))
      go_roundg gk'
      case measure => omega
      case rel => exact ⟨i + 1, by first | (with_reducible rfl) | (have := HI.out; have := HL.out; have := HML.out; congr 1; unfold wrap64; omega), ⟨by have := HI.out; omega⟩, ⟨by rw [HT.out]; have h_ := HO3.out; rw [Int.toNat_natCast] at h_; exact h_⟩, HO, HB⟩
end Go.Proofs.Ytieipeigjhicfaa.Q
