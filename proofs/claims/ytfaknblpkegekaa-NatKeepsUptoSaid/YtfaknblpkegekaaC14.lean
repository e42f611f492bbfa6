import Derived.Deep.CutBlock
import Derived.Lib.Mul64
import Derived.Test.YtfaknblpkegekaaC7
import Derived.Test.YtfaknblpkegekaaC9
import Derived.Test.YtfaknblpkegekaaC10
import Derived.Test.YtfaknblpkegekaaC11
import Derived.Test.YtfaknblpkegekaaC12
import Derived.Test.YtfaknblpkegekaaC13
section
namespace Go.Proofs.Ytfaknblpkegekaa.Q
open Go.RowKit Go.Proofs.YtfaknblpkegekaaW.PrintWords Go.Proofs.YtfaknblpkegekaaW.PrintLast Go.Proofs.YtfaknblpkegekaaW.PrintMore
set_option linter.unusedVariables false
set_option linter.unusedSimpArgs false
theorem cut_cap {P : Program} (t e : TypeId) (kh : IntKind) {i : TypeInfo} (ht : P.underlying t = some (.slice e)) (hi : P.info? e = some i) (A : Option Addr) (n c : Nat) (j : Int) (h0 : 0 ≤ j) (hm : j ≤ c) :
    ∀ W : World, (Instr.slice t (.slice A n c) none (some (.int kh j)) none).run P W = .ok (.slice A j.toNat c) W := by
  intro W
  have hel : P.elem t = e := by simp [Program.elem, ht]
  have hu : P.underlying t = some (.slice (P.elem t)) := by rw [hel]; exact ht
  have ha : (A.map fun x => x.add 0) = A := by cases A <;> simp [Addr.add]
  rw [run_slice_h W t A n c hu kh j h0 (by omega), hel]
  simp [sizeOf, typeInfo, hi, sliced, Result.andThen, ha]
theorem wpList_slice_hi {P : Program} {ops : Array Oper} {rest : List Oper} {o : Oper} {a : Act} {w : World} {Q : Exit → Act → World → Prop} (hgd : o.guard = none) (t : TypeId) (x y : Operand) (ho : o.op = .slice t x none (some y) none) (A : Option Addr) (n c : Nat) (kh : IntKind) (j : Int)
    (hx : a.eval x = .slice A n c) (hy : a.eval y = .int kh j) (ht : P.underlying t = some (.slice (P.elem t))) (hr : ∀ W : World, (Instr.slice t (.slice A n c) none (some (.int kh j)) none).run P W = .ok (.slice A j.toNat c) W)
    (h : wpList P ops Q rest (a.put o.dst (.slice A j.toNat c)) w) : wpList P ops Q (o :: rest) a w := by
  refine wpList_plain hgd fun K hK => ?_
  unfold Oper.wp execOp
  simp only [ho, Option.map_none, Option.map_some, hx, hy, Sem.run_bind, Sem.run_pure, run_sliceAt_slice (h := ht), hr, Result.andThen_ok]
  exact hK _ _ h
theorem elem22 : Try.prog.underlying 22 = some (.slice (Try.prog.elem 22)) := by
  have h : Try.prog.elem 22 = 46 := by simp [Program.elem, Try.underlying22]
  rw [h]
  exact Try.underlying22
set_option maxHeartbeats 8000000 in
set_option maxRecDepth 100000 in
theorem own_walk (A0 : Option Addr) (c0 : Nat) (l0 : List Int) (w : World) (hr0 : Kd.C (Kd.int .u64) w A0 l0.length l0) (hc0 : l0.length ≤ c0) (hl : l0.length ≤ 1099511627776) :
    Calls Try.prog 33 #[.slice A0 l0.length c0] w fun e w' => ∃ g c, e = .returned (.slice (some ⟨g, 0, none⟩) l0.length c) ∧ Kd.R (Kd.int .u64) 46 w' w.heap.size (fun _ => True) (.slice (some ⟨g, 0, none⟩) (l0.length + 1) c) (l0 ++ [77]) ∧ Below w.heap.size w w' := by
  have HR0 := Aside0.mk hr0
  have HC0 := Aside0.mk hc0
  have HL := Aside0.mk hl
  clear hr0 hc0 hl
  have HB := Aside0.mk (Below.refl w.heap.size w)
  go_enter Try.func33, Try.ntmps33
  go_wp2_with (first | ((with_reducible refine gate_dst (N := 4) rfl ?_); refine Kd.R_lit (Kd.int .u64) _ 46 ?hg (N := 4) ?hd (xs := ([] : List Int)) (inner := []) (ok := fun _ => True) (okp := fun _ => True) ?hr ?hp (fun _ hk => hk) trivial (Below.refl _ _) (Nat.le_refl _) (by simp) ?_; (case hd => rfl); (case hg => rfl); (case hr => first | (go_simp; done) | (go_simp; rfl)); (case hp => exact (Reps.none _ _)); intro v102 w6 ho7 hb hg_ hnew_; clear hg_ hnew_; have n0_ := Aside0.mk (Kd.R_lower ho7 (below_size (by repeat (first | (with_reducible first | exact HB.out | apply below_alloc | apply pw_below_drewN | apply below_drew1) | exact HB.out)))); have n1_ := Aside0.mk (below_step (by repeat (first | (with_reducible first | exact HB.out | apply below_alloc | apply pw_below_drewN | apply below_drew1) | exact HB.out)) hb); clear HB; have HO103 := n0_; have HB := n1_; clear n0_ n1_; clear hb ho7) | ((with_reducible refine gate_builtin (b := .append) (xs := #[.tmp 4, .tmp 5]) rfl ?_); at_builtin; refine Kd.R_append_rows (Kd.int .u64) (w0 := w) w.heap.size rfl (.tmp 4) (.tmp 5) 22 46 (.int .u64 0) 8 rfl Try.underlying22 info46 rfl (by decide) (by omega) v102 [] l0 _ _ _ (fun _ => True) (fun _ => False) rfl rfl ?aO ?aR (fun _ _ h => h) (fun _ h => h.elim) ?aF ?aB ?aS ?aL ?_; (case aR => exact (by repeat (first | exact (Kd.C_below HR0.out HB.out) | (with_reducible refine Kd.C_alloc ?_ _) | (with_reducible refine Kd.C_drewN ?_ _) | (with_reducible refine Kd.C_drew ?_)))); (case aB => exact (by repeat (first | (with_reducible first | exact HB.out | apply below_alloc | apply pw_below_drewN | apply below_drew1) | exact HB.out))); (case aF => exact (fun _ _ => trivial)); (case aO => exact (by (with_reducible repeat (first | apply Kd.R_alloc | apply Kd.R_drewN | apply Kd.R_drew)); exact HO103.out)); (case aS => exact (below_size (by repeat (first | (with_reducible first | exact HB.out | apply below_alloc | apply pw_below_drewN | apply below_drew1) | exact HB.out)))); (case aL => have := HL.out; simp only [List.length_nil]; omega); intro v105 w8 ho hb hg hat; rw [List.nil_append] at ho; have n0_ := Aside0.mk (hb); have n1_ := Aside0.mk (ho); clear HB; clear HO103; have HB := n0_; have HO106 := n1_; clear n0_ n1_; clear ho hb hg hat) | ((with_reducible refine gate_builtin (b := .append) (xs := #[.tmp 7, .tmp 8]) rfl ?_); at_builtin; refine Kd.R_append (Kd.int .u64) (w0 := w) w.heap.size rfl (.tmp 7) (.tmp 8) 22 46 (.int .u64 0) 8 rfl Try.underlying22 info46 rfl (by decide) (by omega) v105 l0 (77 : Int) [.int .u64 77] (fun _ => True) (fun _ => False) rfl rfl ?aP (fun _ hk => hk.elim) ?aF ?aO ?aB ?aS ?aL ?_; (case aP => rfl); (case aB => exact (by repeat (first | (with_reducible first | exact HB.out | apply below_alloc | apply pw_below_drewN | apply below_drew1) | exact HB.out))); (case aF => exact (fun _ _ => trivial)); (case aO => exact (by (with_reducible repeat (first | apply Kd.R_alloc | apply Kd.R_drewN | apply Kd.R_drew)); exact HO106.out)); (case aS => exact (below_size (by repeat (first | (with_reducible first | exact HB.out | apply below_alloc | apply pw_below_drewN | apply below_drew1) | exact HB.out)))); (case aL => have := HL.out; omega); intro v108 w9 ho hb hg hat; have n0_ := Aside0.mk (hb); clear HB HO106; have HB := n0_; clear n0_ hb hg hat; obtain ⟨g9, c9, eg, _, _, _⟩ := Kd.R_form ho (by simp); have hlen9 : (l0 ++ [(77 : Int)]).length = l0.length + 1 := (by simp); rw [hlen9] at eg; subst eg; have HO109 := Aside0.mk ho; have hcc := (Kd.R_reads' ho).2.1; obtain ⟨i011, hi011, _, hsz11, _⟩ := info_parts info46; have hcut11 := cut_to (P := Try.prog) 22 46 .i64 Try.underlying22 hi011 (some ⟨g9, 0, none⟩) (l0.length + 1) c9 (l0.length : Int) (by omega) (by omega) hcc; rw [Int.toNat_natCast] at hcut11; have h00 : decide (0 ≤ (l0.length : Int)) = true := decide_eq_true (by omega); clear ho hcc hi011 hsz11 hlen9))
  go_ret
  exact ⟨_, _, rfl, HO109.out, (by repeat (first | (with_reducible first | exact HB.out | apply below_alloc | apply pw_below_drewN | apply below_drew1) | exact HB.out))⟩
theorem own_C {w : World} {base : Nat} {ok : Nat → Prop} {A : Option Addr} {c : Nat} {l : List Int} (h : Kd.R (Kd.int .u64) 46 w base ok (.slice A (l.length + 1) c) (l ++ [77])) : Kd.C (Kd.int .u64) w A l.length l := by
  have h2 := Kd.R_take (m := l.length) h (by rw [List.length_append]; omega)
  rw [List.take_left] at h2
  exact (Kd.R_reads' h2).2.2
set_option maxHeartbeats 4000000 in
set_option maxRecDepth 100000 in
theorem kept_walk (g c : Nat) (l : List Int) (A1 : Option Addr) (c1 : Nat) (w : World) {base : Nat} {ok : Nat → Prop} (h : Kd.R (Kd.int .u64) 46 w base ok (.slice (some ⟨g, 0, none⟩) (l.length + 1) c) (l ++ [77])) (hr1 : Kd.C (Kd.int .u64) w A1 l.length l) (hc1 : l.length ≤ c1) (hl : l.length ≤ 1099511627776) : Calls Try.prog 34 #[.slice (some ⟨g, 0, none⟩) l.length c, .slice A1 l.length c1] w fun e w' => e = .returned (.bool true) ∧ Drawn0 w w' := by
  obtain ⟨hx_, hcap, hC⟩ := Kd.R_reads' h
  clear hx_
  have HC := Aside0.mk (own_C h)
  have HR1 := Aside0.mk hr1
  have HC1 := Aside0.mk hc1
  have hlen : (l ++ [(77 : Int)]).length = l.length + 1 := by simp
  obtain ⟨ad, eA, hx0⟩ := Kd.at_int hC (l.length : Int) (by omega) (by rw [hlen]; omega)
  have ead : ad = ⟨g, 0, none⟩ := by injection eA with eA; exact eA.symm
  subst ead
  have hr : rd (l ++ [77]) (l.length : Int) = 77 := by
    simp [rd]
  rw [hr, Int.toNat_natCast] at hx0
  have e3 : (⟨g, 0, none⟩ : Addr).add l.length = ⟨g, l.length, none⟩ := by
    unfold Addr.add
    split
    · rename_i h0; simp [h0]
    · simp
  rw [e3] at hx0
  obtain ⟨j, hj⟩ : ∃ j : Int, (l.length : Int) + 1 = j := ⟨_, rfl⟩
  have hw : wrap64 ((l.length : Int) + 1) = j := by unfold wrap64; omega
  have hw2 : IntKind.i64.wrap ((l.length : Int) + 1) = j := (i64_w _).trans hw
  obtain ⟨i0_, hi0_, _, hsz_, _⟩ := info_parts info46
  have hcut := cut_cap (P := Try.prog) 22 46 .i64 Try.underlying22 hi0_ (some ⟨g, 0, none⟩) l.length c j (by omega) (by omega)
  have hjn : j.toNat = l.length + 1 := by omega
  have hu22 := Try.underlying22
  have h00 : decide (0 ≤ j) = true := decide_eq_true (by omega)
  have h01 : decide (j < 0) = false := decide_eq_false (by omega)
  have p1 : (0 ≤ (l.length : Int)) = True := eq_true (by omega)
  have q1 : ((l.length : Int) < ((l.length + 1 : Nat) : Int)) = True := eq_true (by omega)
  have q2 : ((l.length : Int) < (l.length : Int) + 1) = True := eq_true (by omega)
  have HS := Aside0.mk (Same_all l l (by omega) (l.length + 1) (Nat.le_refl _))
  rw [decide_eq_true rfl] at HS
  clear hi0_ hsz_ hC hlen hr h hj eA hr1 hc1 hl
  go_enter Try.func34, Try.ntmps34
  go_wp2_with (first | ((with_reducible refine gate_callee (f := 15) rfl ?_); refine goesL_ (some 7) rfl rfl Try.func15 (by kernel_rfl) rfl #[.slice (some ⟨g, 0, none⟩) l.length c, .slice A1 l.length c1] rfl (by (try simp only [List.map_toArray, List.map_cons, List.map_nil]); first | done | rfl) ?_; (with_reducible refine (quipuref01_Same.calls _ _ _ l _ _ l true _ HC.out (by omega) HR1.out HC1.out HS.out).mono ?_); rintro e w2 ⟨rfl, hd⟩; obtain ⟨nd, rfl⟩ := hd.out; refine ⟨_, rfl, ?_⟩) | ((with_reducible refine gate_dst (N := 13) rfl ?_); refine wpList_slice_hi rfl 22 (.tmp 9) (.tmp 12) rfl (some ⟨g, 0, none⟩) l.length c .i64 j rfl rfl elem22 hcut ?_; rw [hjn]))
  go_ret
  exact ⟨rfl, _, rfl⟩
end Go.Proofs.Ytfaknblpkegekaa.Q
end
section
namespace Go.Proofs.Ytfaknblpkegekaa.Q
open Go.RowKit Go.Proofs.YtfaknblpkegekaaW.PrintWords Go.Proofs.YtfaknblpkegekaaW.PrintLast Go.Proofs.YtfaknblpkegekaaW.PrintMore
set_option linter.unusedVariables false
theorem and_low (x : Int) (h : 0 ≤ x ∧ x < 18446744073709551616) : Go.bits .and .u64 x 4294967295 = x % 4294967296 := by
  obtain ⟨a, rfl⟩ : ∃ a : Nat, x = a := ⟨x.toNat, by omega⟩
  have ha : a < 2 ^ 64 := by omega
  have e1 : (4294967295 : Int) = ((2 ^ 32 - 1 : Nat) : Int) := by decide
  simp only [Go.bits]
  have hb64 : IntKind.u64.bits = 64 := rfl
  rw [e1, BitVec.ofInt_natCast, BitVec.ofInt_natCast, BitVec.toNat_and, BitVec.toNat_ofNat, BitVec.toNat_ofNat, hb64, Nat.mod_eq_of_lt ha, Nat.mod_eq_of_lt (by decide : 2 ^ 32 - 1 < 2 ^ 64), Nat.and_two_pow_sub_one_eq_mod, IntKind.wrap_u64]
  omega
theorem wrap_in (x : Int) (h : 0 ≤ x ∧ x < 18446744073709551616) : IntKind.u64.wrap x = x := by
  rw [IntKind.wrap_u64]; omega
theorem Mul64_eq (x y : Nat) (hx : x < 18446744073709551616) (hy : y < 18446744073709551616) : bits_Mul64.f x y = some (((x * y / 18446744073709551616 : Nat) : Int), ((x * y % 18446744073709551616 : Nat) : Int)) := by
  unfold bits_Mul64.f
  have h := Lib.mul64_hi x y hx hy
  rw [and_low x (by omega), and_low y (by omega)]
  have e0 : (x : Int) / 4294967296 = ((x / 4294967296 : Nat) : Int) := by omega
  have e1 : (y : Int) / 4294967296 = ((y / 4294967296 : Nat) : Int) := by omega
  have e2 : (x : Int) % 4294967296 = ((x % 4294967296 : Nat) : Int) := by omega
  have e3 : (y : Int) % 4294967296 = ((y % 4294967296 : Nat) : Int) := by omega
  rw [e0, e1, e2, e3]
  have hp : (x / 4294967296) * (y / 4294967296) ≤ 18446744065119617025 := Lib.half_mul_le (by omega) (by omega)
  have hq : (x / 4294967296) * (y % 4294967296) ≤ 18446744065119617025 := Lib.half_mul_le (by omega) (by omega)
  have hr : (x % 4294967296) * (y / 4294967296) ≤ 18446744065119617025 := Lib.half_mul_le (by omega) (by omega)
  simp only [← Int.natCast_mul]
  generalize (x / 4294967296) * (y / 4294967296) = p11 at *
  generalize (x / 4294967296) * (y % 4294967296) = p10 at *
  generalize (x % 4294967296) * (y / 4294967296) = p01 at *
  generalize (x % 4294967296) * (y % 4294967296) = p00 at *
  generalize x * y = z at *
  clear e0 e1 e2 e3
  obtain ⟨h0, h1, h2, h3⟩ := h
  rw [wrap_in (p00 : Int) (by omega), wrap_in (p01 : Int) (by omega), wrap_in (p10 : Int) (by omega), wrap_in (p11 : Int) (by omega)]
  rw [wrap_in ((p10 : Int) + (p00 : Int) / 4294967296) (by omega)]
  rw [and_low _ (by omega)]
  rw [wrap_in (((p10 : Int) + (p00 : Int) / 4294967296) % 4294967296 + (p01 : Int)) (by omega)]
  rw [IntKind.wrap_u64, IntKind.wrap_u64, IntKind.wrap_u64]
  congr 1
  refine Prod.ext ?_ ?_
  · simp only; omega
  · simp only; omega
theorem mul_step (x y c o : Int) (hx : 0 ≤ x ∧ x < 18446744073709551616) (hy : 0 ≤ y ∧ y < 18446744073709551616) (hc : 0 ≤ c ∧ c < 18446744073709551616) (ho : 0 ≤ o ∧ o < 18446744073709551616) :
    ∃ hi lo, bits_Mul64.f x y = some (hi, lo) ∧ (add64s (add64s lo c 0) o 0).toNat + 18446744073709551616 * (IntKind.u64.wrap (IntKind.u64.wrap (hi + add64c lo c 0) + add64c (add64s lo c 0) o 0)).toNat = x.toNat * y.toNat + c.toNat + o.toNat ∧
      (0 ≤ add64s (add64s lo c 0) o 0 ∧ add64s (add64s lo c 0) o 0 < 18446744073709551616) ∧ (0 ≤ IntKind.u64.wrap (IntKind.u64.wrap (hi + add64c lo c 0) + add64c (add64s lo c 0) o 0) ∧ IntKind.u64.wrap (IntKind.u64.wrap (hi + add64c lo c 0) + add64c (add64s lo c 0) o 0) < 18446744073709551616) := by
  obtain ⟨a, rfl⟩ : ∃ a : Nat, x = a := ⟨x.toNat, by omega⟩
  obtain ⟨b, rfl⟩ : ∃ b : Nat, y = b := ⟨y.toNat, by omega⟩
  refine ⟨_, _, Mul64_eq a b (by omega) (by omega), ?_⟩
  have hm : a * b ≤ 340282366920938463426481119284349108225 := Nat.mul_le_mul (show a ≤ 18446744073709551615 by omega) (show b ≤ 18446744073709551615 by omega)
  rw [Int.toNat_natCast, Int.toNat_natCast]
  generalize a * b = z at hm ⊢
  obtain ⟨lo, hlo⟩ : ∃ lo : Int, lo = ((z % 18446744073709551616 : Nat) : Int) := ⟨_, rfl⟩
  rw [← hlo]
  have s1 := add64_eq lo c 0 (by omega) hc (by decide)
  have s2 := add64_eq (add64s lo c 0) o 0 s1.2.1 ho (by decide)
  generalize add64s (add64s lo c 0) o 0 = s at *
  generalize add64c (add64s lo c 0) o 0 = c2 at *
  generalize add64s lo c 0 = t at *
  generalize add64c lo c 0 = c1 at *
  rw [show ((0 : Int)).toNat = 0 from rfl] at s1 s2
  rw [IntKind.wrap_u64, IntKind.wrap_u64]
  refine ⟨?_, s2.2.1, ?_⟩ <;> omega
theorem getD_set_ne (l : List Int) (j m : Nat) (y : Int) (h : m ≠ j) : (l.set j y).getD m 0 = l.getD m 0 := by
  rw [List.getD_eq_getElem?_getD, List.getD_eq_getElem?_getD, List.getElem?_set_ne (by omega)]
theorem val_set : ∀ (l : List Int) (j : Nat) (y : Int), j < l.length → val (l.set j y) + 18446744073709551616 ^ j * (l.getD j 0).toNat = val l + 18446744073709551616 ^ j * y.toNat
  | x :: l, 0, y, _ => by
    simp only [List.set_cons_zero, val, List.getD_cons_zero, Nat.pow_zero, Nat.one_mul]
    omega
  | x :: l, j + 1, y, h => by
    have ih := val_set l j y (by simpa using h)
    simp only [List.set_cons_succ, val, List.getD_cons_succ]
    rw [Nat.pow_succ, Nat.mul_comm (18446744073709551616 ^ j) 18446744073709551616, Nat.mul_assoc, Nat.mul_assoc]
    omega
theorem lim_set {l : List Int} (h : Lim l) (j : Nat) (y : Int) (hy : 0 ≤ y ∧ y < 18446744073709551616) : Lim (l.set j y) := fun z hz => by
  rcases List.mem_or_eq_of_mem_set hz with h1 | h1
  · exact h z h1
  · rw [h1]; exact hy
theorem val_zero : ∀ n : Nat, val (List.replicate n 0) = 0
  | 0 => rfl
  | n + 1 => by rw [List.replicate_succ]; simp [val, val_zero n]
theorem zero_lim (n : Nat) : Lim (List.replicate n 0) := fun x hx => by
  rw [List.eq_of_mem_replicate hx]; decide
theorem Mul_one (l0 l1 : List Int) (h0 : Lim l0) (h1 : Lim l1) (i j n : Nat) (hi : i < l0.length) (hj : j < l1.length) (hn : n = l0.length + l1.length) (hb : n ≤ 70368744177664) (K : Nat) (o : List Int) (c : Int) (hl : o.length = n) (ho : Lim o) (hc : 0 ≤ c ∧ c < 18446744073709551616) :
    ∃ s cr : Int, nat_Mul.l1 (K + 1) l1 o (i : Int) (l0.getD i 0) c l0 (l0.length : Int) (i : Int) l1 (l1.length : Int) (j : Int) = nat_Mul.l1 K l1 (o.set (i + j) s) (i : Int) (l0.getD i 0) cr l0 (l0.length : Int) (i : Int) l1 (l1.length : Int) ((j + 1 : Nat) : Int) ∧ s.toNat + 18446744073709551616 * cr.toNat = (l0.getD i 0).toNat * (l1.getD j 0).toNat + c.toNat + (o.getD (i + j) 0).toNat ∧ (0 ≤ s ∧ s < 18446744073709551616) ∧ (0 ≤ cr ∧ cr < 18446744073709551616) := by
  have w1 : wrap64 ((i : Int) + (j : Int)) = ((i + j : Nat) : Int) := by unfold wrap64; omega
  have w2 : wrap64 ((j : Int) + 1) = ((j + 1 : Nat) : Int) := by unfold wrap64; omega
  have q1 : (j : Int) < (l1.length : Int) := by omega
  have q2 : (0 : Int) ≤ (j : Int) := by omega
  have q3 : (0 : Int) ≤ ((i + j : Nat) : Int) := by omega
  have q4 : ((i + j : Nat) : Int) < (o.length : Int) := by omega
  have q5 : (0 : Int) ≤ (i : Int) := by omega
  have q6 : (i : Int) < (l0.length : Int) := by omega
  have hx := h0.getD i
  have hy := h1.getD j
  have hov := ho.getD (i + j)
  have r1 : ∀ (l : List Int) (m : Nat), rd l (m : Int) = l.getD m 0 := fun l m => rfl
  obtain ⟨hi', lo', eM, hst, hs1, hs2⟩ := mul_step (l0.getD i 0) (l1.getD j 0) c (o.getD (i + j) 0) hx hy hc hov
  refine ⟨_, _, ?_, hst, hs1, hs2⟩
  simp only [nat_Mul.l1]
  rw [if_pos q1, if_pos q2, if_pos q1, r1, eM, Option.bind_some, w1, if_pos q3, if_pos q4, w2, r1, Int.toNat_natCast]
theorem Mul_in (l0 l1 : List Int) (h0 : Lim l0) (h1 : Lim l1) (i : Nat) (hi : i < l0.length) (V n : Nat) (hn : n = l0.length + l1.length) (hb : n ≤ 70368744177664) (K : Nat) :
    ∀ (d j : Nat) (o : List Int) (c : Int), j + d = l1.length → o.length = n → Lim o → (0 ≤ c ∧ c < 18446744073709551616) → (∀ m, i + l1.length ≤ m → o.getD m 0 = 0) →
      val o + 18446744073709551616 ^ (i + j) * c.toNat = V + 18446744073709551616 ^ i * ((l0.getD i 0).toNat * val (l1.take j)) →
      ∃ o', nat_Mul.l1 (K + d + 1) l1 o (i : Int) (l0.getD i 0) c l0 (l0.length : Int) (i : Int) l1 (l1.length : Int) (j : Int) = nat_Mul.l0 K l1 o' l0 (l0.length : Int) ((i + 1 : Nat) : Int) ∧ o'.length = n ∧ Lim o' ∧ (∀ m, i + 1 + l1.length ≤ m → o'.getD m 0 = 0) ∧ val o' = V + 18446744073709551616 ^ i * ((l0.getD i 0).toNat * val l1) := by
  intro d
  induction d with
  | zero =>
    intro j o c hj hl ho hc hz hv
    have w1 : wrap64 ((i : Int) + (l1.length : Int)) = ((i + l1.length : Nat) : Int) := by clear hv; unfold wrap64; omega
    have w2 : wrap64 ((i : Int) + 1) = ((i + 1 : Nat) : Int) := by clear hv; unfold wrap64; omega
    refine ⟨o.set (i + l1.length) c, ?_, by simpa using hl, lim_set ho _ _ hc, ?_, ?_⟩
    · simp only [nat_Mul.l1]
      rw [if_neg (by clear hv; omega), w1, if_pos (by clear hv; omega), if_pos (by clear hv; omega), w2, Int.toNat_natCast]
    · intro m hm
      rw [getD_set_ne _ _ _ _ (by clear hv; omega)]
      exact hz m (by clear hv; omega)
    · have hs := val_set o (i + l1.length) c (by clear hv; omega)
      rw [hz _ (Nat.le_refl _)] at hs
      have hjl : j = l1.length := by clear hv hs; omega
      rw [hjl, List.take_length] at hv
      rw [show ((0 : Int)).toNat = 0 from rfl, Nat.mul_zero, Nat.add_zero] at hs
      rw [hs]; exact hv
  | succ d ih =>
    intro j o c hj hl ho hc hz hv
    obtain ⟨s, cr, hrun, hst, hs1, hs2⟩ := Mul_one l0 l1 h0 h1 i j n hi (by clear hv; omega) hn hb (K + d + 1) o c hl ho hc
    have hz2 : ∀ m, i + l1.length ≤ m → (o.set (i + j) s).getD m 0 = 0 := by
      clear hv hst ih hs1 hs2 hrun
      intro m hm
      rw [getD_set_ne o (i + j) m s (by omega)]
      exact hz m hm
    have hjd : j + 1 + d = l1.length := by clear hv hst ih hs1 hs2 hrun; omega
    have hij : i + j < o.length := by clear hv hst ih hs1 hs2 hrun; omega
    have hsl : (o.set (i + j) s).length = n := by rw [List.length_set]; exact hl
    have hv2 : val (o.set (i + j) s) + 18446744073709551616 ^ (i + (j + 1)) * cr.toNat = V + 18446744073709551616 ^ i * ((l0.getD i 0).toNat * val (l1.take (j + 1))) := by
      clear ih hz2 hz hsl hrun
      have hset := val_set o (i + j) s hij
      rw [take_getD, Nat.mul_add ((l0.getD i 0).toNat), Nat.mul_add (18446744073709551616 ^ i), ← Nat.add_assoc V, ← hv]
      have e3 : 18446744073709551616 ^ i * ((l0.getD i 0).toNat * (18446744073709551616 ^ j * (l1.getD j 0).toNat)) = 18446744073709551616 ^ (i + j) * ((l0.getD i 0).toNat * (l1.getD j 0).toNat) := by
        rw [Nat.pow_add, Nat.mul_left_comm _ (18446744073709551616 ^ j), Nat.mul_assoc]
      rw [e3, show i + (j + 1) = i + j + 1 from (Nat.add_assoc i j 1).symm, Nat.pow_succ]
      have e4 := congrArg (fun z => 18446744073709551616 ^ (i + j) * z) hst
      simp only [Nat.mul_add] at e4
      rw [← Nat.mul_assoc] at e4
      generalize 18446744073709551616 ^ (i + j) * 18446744073709551616 = PB at *
      generalize 18446744073709551616 ^ (i + j) = P at *
      omega
    obtain ⟨o', e1, e2⟩ := ih (j + 1) (o.set (i + j) s) cr hjd hsl (lim_set ho _ _ hs1) hs2 hz2 hv2
    refine ⟨o', ?_, e2⟩
    rw [← e1]
    exact hrun

theorem Mul_out (l0 l1 : List Int) (h0 : Lim l0) (h1 : Lim l1) (n : Nat) (hn : n = l0.length + l1.length) (hb : n ≤ 70368744177664) (K : Nat) :
    ∀ (d i : Nat) (o : List Int), i + d = l0.length → o.length = n → Lim o → (∀ m, i + l1.length ≤ m → o.getD m 0 = 0) → val o = val (l0.take i) * val l1 →
      nat_Mul.l0 (K + d * (l1.length + 2) + n + 2) l1 o l0 (l0.length : Int) (i : Int) = some (limbs (val l0 * val l1)) := by
  intro d
  induction d with
  | zero =>
    intro i o hi hl ho hz hv
    rw [show K + 0 * (l1.length + 2) + n + 2 = (K + n + 1) + 1 by omega]
    simp only [nat_Mul.l0]
    rw [if_neg (by omega), trim_ge o ho (by omega) (K + n + 1) (by omega), hv, List.take_of_length_le (by omega)]
    rfl
  | succ d ih =>
    intro i o hi hl ho hz hv
    obtain ⟨K1, hK1⟩ : ∃ K1, K1 = K + d * (l1.length + 2) + n + 2 := ⟨_, rfl⟩
    have hmul : (d + 1) * (l1.length + 2) = d * (l1.length + 2) + (l1.length + 2) := Nat.succ_mul _ _
    rw [show K + (d + 1) * (l1.length + 2) + n + 2 = K1 + l1.length + 1 + 1 by omega]
    obtain ⟨o', e1, e2, e3, e4, e5⟩ := Mul_in l0 l1 h0 h1 i (by omega) (val o) n hn hb K1 l1.length 0 o 0 (by omega) hl ho (by decide) hz (by simp [val])
    have ih' := ih (i + 1) o' (by clear e5; omega) e2 e3 e4 (by rw [e5, hv, take_getD, Nat.add_mul, Nat.mul_assoc])
    rw [← hK1, ← e1] at ih'
    rw [← ih']
    simp only [nat_Mul.l0]
    rw [if_pos (by clear ih ih' e5 e1; omega), if_pos (by clear ih ih' e5 e1; omega), if_pos (by clear ih ih' e5 e1; omega)]
    rfl
theorem Mul_ge (l0 l1 : List Int) (h0 : Lim l0) (h1 : Lim l1) (hb : l0.length + l1.length ≤ 35184372088832) (K : Nat) (hK : l0.length * (l1.length + 2) + l0.length + l1.length + 2 ≤ K) : nat_Mul.f K l0 l1 = some (limbs (val l0 * val l1)) := by
  unfold nat_Mul.f
  have w1 : wrap64 ((l0.length : Int) + (l1.length : Int)) = ((l0.length + l1.length : Nat) : Int) := by unfold wrap64; omega
  rw [w1, if_pos (by omega), Int.toNat_natCast, if_pos (by omega)]
  have h := Mul_out l0 l1 h0 h1 _ rfl (by omega) (K - (l0.length * (l1.length + 2) + l0.length + l1.length + 2)) l0.length 0 (List.replicate (l0.length + l1.length) 0) (by omega) (by simp) (zero_lim _) (fun m hm => by
    rw [List.getD_eq_getElem?_getD, List.getElem?_replicate]; split <;> rfl) (by rw [val_zero]; simp [val])
  rw [show K - (l0.length * (l1.length + 2) + l0.length + l1.length + 2) + l0.length * (l1.length + 2) + (l0.length + l1.length) + 2 = K by omega] at h
  exact h
end Go.Proofs.Ytfaknblpkegekaa.Q
end
section
namespace Go.Proofs.Ytfaknblpkegekaa.Q
open Go.RowKit Go.Proofs.YtfaknblpkegekaaW.PrintWords Go.Proofs.YtfaknblpkegekaaW.PrintLast Go.Proofs.YtfaknblpkegekaaW.PrintMore
set_option linter.unusedVariables false
set_option linter.unusedSimpArgs false
def Ap (u v : Value) : Prop := ∀ b, u.ownBlock = some b → v.ownBlock ≠ some b
theorem Ap.symm {u v : Value} (h : Ap u v) : Ap v u := fun b hv hu => h b hu hv
structure Sep (b : Nat) (w : World) (L : List (Value × List Int)) : Prop where
  r : ∀ p ∈ L, Kd.R (Kd.int .u64) 46 w b (fun _ => True) p.1 p.2 ∧ p.2.length ≤ 4194304
  ap : L.Pairwise (fun p q => Ap p.1 q.1)
theorem Sep.nil (b : Nat) (w : World) : Sep b w [] := ⟨fun _ h => by simp at h, List.Pairwise.nil⟩
theorem Sep.below {b : Nat} {w w1 : World} {L : List (Value × List Int)} (h : Sep b w L) (hb : Below w.heap.size w w1) : Sep b w1 L := ⟨fun p hp => ⟨Kd.R_below (h.r p hp).1 hb, (h.r p hp).2⟩, h.ap⟩
theorem Sep.add {b : Nat} {w w1 : World} {L : List (Value × List Int)} {ok : Nat → Prop} {v : Value} {xs : List Int} (h : Sep b w L) (hb : Below w.heap.size w w1) (hle : b ≤ w.heap.size) (hv : Kd.R (Kd.int .u64) 46 w1 w.heap.size ok v xs) (hl : xs.length ≤ 4194304) : Sep b w1 ((v, xs) :: L) := by
  refine ⟨fun p hp => ?_, List.pairwise_cons.2 ⟨fun q hq k hk he => ?_, h.ap⟩⟩
  · rcases List.mem_cons.1 hp with rfl | hp
    · exact ⟨Kd.R_mono (Kd.R_lower hv hle) (fun _ _ => trivial), hl⟩
    · exact (h.below hb).r p hp
  · have h1 := Kd.R_base hv k hk
    have h2 := Kd.R_lt (h.r q hq).1 k he
    omega
theorem Sep.two {b : Nat} {w w1 : World} {q r : Value} {xq xr : List Int} (hle : b ≤ w.heap.size) (hq : Kd.R (Kd.int .u64) 46 w1 w.heap.size (fun k_ => (w.heap.size ≤ k_) ∧ some k_ ≠ (r : Value).ownBlock) q xq) (hr : Kd.R (Kd.int .u64) 46 w1 w.heap.size (fun k_ => (w.heap.size ≤ k_)) r xr) (lq : xq.length ≤ 4194304) (lr : xr.length ≤ 4194304) : Sep b w1 [(q, xq), (r, xr)] := by
  refine ⟨fun p hp => ?_, List.pairwise_cons.2 ⟨fun p hp k hk he => ?_, List.pairwise_cons.2 ⟨fun p hp => by simp at hp, List.Pairwise.nil⟩⟩⟩
  · simp only [List.mem_cons, List.not_mem_nil, or_false] at hp
    rcases hp with rfl | rfl
    · exact ⟨Kd.R_mono (Kd.R_lower hq hle) (fun _ _ => trivial), lq⟩
    · exact ⟨Kd.R_mono (Kd.R_lower hr hle) (fun _ _ => trivial), lr⟩
  · simp only [List.mem_cons, List.not_mem_nil, or_false] at hp
    subst hp
    exact (hq.1 k hk).2 he.symm
theorem Sep.at {b : Nat} {w : World} {L : List (Value × List Int)} (h : Sep b w L) (i j : Nat) (hi : i < L.length) (hj : j < L.length) (hne : i ≠ j) : Ap (L[i]).1 (L[j]).1 := by
  have hp := List.pairwise_iff_getElem.1 h.ap
  rcases Nat.lt_or_gt_of_ne hne with hlt | hlt
  · exact hp i j hi hj hlt
  · exact (hp j i hj hi hlt).symm
structure S8 (b : Nat) (w : World) (V : Nat → Value) (X : Nat → List Int) : Prop where
  r : ∀ i, i < 8 → Kd.R (Kd.int .u64) 46 w b (fun _ => True) (V i) (X i)
  len : ∀ i, i < 8 → (X i).length ≤ 4194304
  ap : ∀ i j, i < 8 → j < 8 → i ≠ j → Ap (V i) (V j)
def place (i : Nat) : Nat := [2, 1, 5, 0, 6, 7, 4, 3].getD i 0
theorem place_lt : ∀ i, i < 8 → place i < 8 := by decide
theorem place_ne : ∀ i, i < 8 → ∀ j, j < 8 → i ≠ j → place i ≠ place j := by decide
theorem Sep.eight {b : Nat} {w : World} {L : List (Value × List Int)} (h : Sep b w L) (hl : L.length = 8) (z : Value × List Int) : S8 b w (fun i => (L.getD (place i) z).1) (fun i => (L.getD (place i) z).2) := by
  have hg : ∀ i, (hi : i < 8) → L.getD (place i) z = L[place i]'(by rw [hl]; exact place_lt i hi) := fun i hi => by
    rw [List.getD_eq_getElem?_getD, List.getElem?_eq_getElem (by rw [hl]; exact place_lt i hi)]; rfl
  refine ⟨fun i hi => ?_, fun i hi => ?_, fun i j hi hj hne => ?_⟩
  · show Kd.R _ 46 w b _ (L.getD (place i) z).1 (L.getD (place i) z).2
    rw [hg i hi]
    exact (h.r _ (List.getElem_mem _)).1
  · show (L.getD (place i) z).2.length ≤ _
    rw [hg i hi]
    exact (h.r _ (List.getElem_mem _)).2
  · show Ap (L.getD (place i) z).1 (L.getD (place j) z).1
    rw [hg i hi, hg j hj]
    exact h.at _ _ _ _ (place_ne i hi j hj hne)
theorem S8.ex {b g : Nat} {w : World} {L : List (Value × List Int)} (h : Sep b w L) (hl : L.length = 8) (z : Value × List Int) {cells : Array Value} (hg : w.heap[g]? = some (.cells cells 22 (0, 0))) (hc : ∀ i, i < 8 → cells[i]? = some ((L.getD (place i) z).1)) : ∃ V X, Aside0 (S8 b w V X) ∧ Aside0 (∀ i, i < 8 → w.cell? ⟨g, i, none⟩ = some (V i)) :=
  ⟨_, _, ⟨h.eight hl z⟩, ⟨fun i hi => (blk_cell hg i).trans (hc i hi)⟩⟩
structure KW (b : Nat) (w w1 : World) (S : Nat → Prop) : Prop where
  kept : Kept w w1 S
  below : Below b w w1
  le : b ≤ w.heap.size
theorem KW.refl {b : Nat} {w : World} {S : Nat → Prop} (h : b ≤ w.heap.size) : KW b w w S := ⟨Kept.refl _ _, Below.refl _ _, h⟩
theorem KW.size {b : Nat} {w w1 : World} {S : Nat → Prop} (h : KW b w w1 S) : b ≤ w1.heap.size := Nat.le_trans h.le h.kept.1
theorem KW.step {b : Nat} {w w1 w2 : World} {S : Nat → Prop} (h : KW b w w1 S) (hb : Below w1.heap.size w1 w2) : KW b w w2 S := ⟨h.kept.below hb, h.below.trans (hb.mono h.size), h.le⟩
theorem KW.mono {b : Nat} {w w1 : World} {S T : Nat → Prop} (h : KW b w w1 S) (hs : ∀ k, S k → T k) : KW b w w1 T := ⟨h.kept.mono hs, h.below, h.le⟩
theorem KW.grown {b : Nat} {w w1 w2 : World} {S : Nat → Prop} {row : Option Nat} (h : KW b w w1 S) (hg : w1.grownBy w2 row) (hr : ∀ k, row = some k → S k) (hS : ∀ k, S k → b ≤ k) : KW b w w2 S :=
  ⟨h.kept.of_grown hg (fun k hk => .inl (hr k hk)), h.below.grown hg h.size (fun k hk => hS k (hr k hk)), h.le⟩
theorem KW.put {b : Nat} {w w1 : World} {S : Nat → Prop} (h : KW b w w1 S) (hS : ∀ k, S k → b ≤ k) {g : Nat} (hp : S g ∨ w.heap.size ≤ g) (i : Nat) (u : Value) : KW b w (w1.setCell ⟨g, i, none⟩ u) S :=
  ⟨h.kept.setCell hp u, h.below.setCell (by rcases hp with hp | hp; exact hS g hp; exact Nat.le_trans h.le hp) u, h.le⟩
theorem S8.below {b : Nat} {w w1 : World} {V : Nat → Value} {X : Nat → List Int} (h : S8 b w V X) (hb : Below w.heap.size w w1) : S8 b w1 V X := ⟨fun i hi => Kd.R_below (h.r i hi) hb, h.len, h.ap⟩
structure WK (w : World) (base g : Nat) (X : Nat → List Int) : Prop where
  at_ : ∀ k, k < 8 → ∃ v, w.cell? ⟨g, k, none⟩ = some v ∧ Kd.R (Kd.int .u64) 46 w base (fun b => base ≤ b) v (X k)
  g0 : base ≤ g
  g1 : g < w.heap.size
theorem WK.of {w : World} {base g c : Nat} {X : Nat → List Int} (h : Kd.R (Kd.slice 46 (Kd.int .u64)) 22 w base (fun k_ => base ≤ k_) (.slice (some ⟨g, 0, none⟩) 8 c) ((List.range 8).map X)) : WK w base g X := by
  refine ⟨fun k hk => ?_, Kd.R_base h g rfl, Kd.R_lt h g rfl⟩
  obtain ⟨cs, hl, ⟨v, rfl, hv⟩, hc⟩ := Kd.R_get h [] (k : Int) (by omega) (by omega)
  refine ⟨v, ?_, ?_⟩
  · have h1 := hc 0 v rfl
    have e3 : (⟨g, 0, none⟩ : Addr).add k = ⟨g, k, none⟩ := by
      unfold Addr.add
      split
      · rename_i h0; simp [h0]
      · simp
    rw [Int.toNat_natCast, show k * (Kd.slice 46 (Kd.int .u64)).sz + 0 = k from Nat.mul_one k, e3] at h1
    exact h1
  · have e : ((List.range 8).map X).getD ((k : Int)).toNat [] = X k := by
      rw [Int.toNat_natCast, List.getD_eq_getElem?_getD, List.getElem?_map, List.getElem?_range hk]; rfl
    rw [e] at hv
    exact Kd.R_mono hv (fun b hb => hb.1)
theorem WK.kept {w w1 : World} {base g : Nat} {X : Nat → List Int} {S : Nat → Prop} (h : WK w base g X) (hk : Kept w w1 S) (hS : ∀ k, S k → k < base) : WK w1 base g X := by
  refine ⟨fun k hk8 => ?_, h.g0, Nat.lt_of_lt_of_le h.g1 hk.1⟩
  obtain ⟨v, hc, hv⟩ := h.at_ k hk8
  exact ⟨v, cell_kept hc hk (fun hs => by have := hS _ hs; have := h.g0; simp only at *; omega), Kd.R_kept hv hk (fun b hb hs => by have := hS _ hs; omega)⟩
theorem pow_up {a b : Nat} (h : a ≤ b) : 18446744073709551616 ^ a ≤ 18446744073709551616 ^ b := Nat.pow_le_pow_right (by omega) h
theorem answers (l0 l1 : List Int) (n : Int) (h0 : Lim l0) (h1 : Lim l1) (n0 : l0.length ≤ 1048576) (n1 : l1.length ≤ 1048576) (hn : n < 9223372036854775808) :
    ∃ (q r d s t no ad mu : List Int) (e f g h : Int) (K : Nat), (if val l1 = 0 then (([] : List Int), ([] : List Int), (11 : Int)) else (limbs (val l0 / val l1), limbs (val l0 % val l1), 0)) = (q, r, e) ∧ nat_Sub.f l0 l1 = some (d, f) ∧ nat_Shl.f l0 n = some (s, g) ∧ nat_Shr.f K l0 n = some (t, h) ∧ nat_Norm.f K l0 = some no ∧ nat_Add.f l0 l1 = some ad ∧ nat_Mul.f K l0 l1 = some mu ∧
      q.length ≤ 4194304 ∧ r.length ≤ 4194304 ∧ d.length ≤ 4194304 ∧ s.length ≤ 4194304 ∧ t.length ≤ 4194304 ∧ no.length ≤ 4194304 ∧ ad.length ≤ 4194304 ∧ mu.length ≤ 4194304 := by
  have v0 := val_lt l0 h0
  have v1 := val_lt l1 h1
  have hw0 : wfl l0 = true := wfl_in h0 (by omega)
  have hw1 : wfl l1 = true := wfl_in h1 (by omega)
  have hs0 : wfs l0 = true := wfs_in h0 (by omega)
  have p1 : 0 < 18446744073709551616 ^ l1.length := Nat.pow_pos (by omega)
  have le : ∀ x L, x < 18446744073709551616 ^ L → L ≤ 4194304 → (limbs x).length ≤ 4194304 := fun x L hx hL => Nat.le_trans (limbs_lt x L hx) hL
  obtain ⟨q, r, e, hdiv, lq, lr⟩ : ∃ q r e, (if val l1 = 0 then (([] : List Int), ([] : List Int), (11 : Int)) else (limbs (val l0 / val l1), limbs (val l0 % val l1), 0)) = (q, r, e) ∧ q.length ≤ 4194304 ∧ r.length ≤ 4194304 := by
    by_cases c : val l1 = 0
    · exact ⟨_, _, _, if_pos c, by simp, by simp⟩
    · exact ⟨_, _, _, if_neg c, le _ _ (Nat.lt_of_le_of_lt (Nat.div_le_self _ _) v0) (by omega), le _ _ (Nat.lt_of_le_of_lt (Nat.mod_le _ _) v0) (by omega)⟩
  obtain ⟨d, f, hd, ld⟩ : ∃ d f, nat_Sub.f l0 l1 = some (d, f) ∧ d.length ≤ 4194304 := by
    unfold nat_Sub.f
    rw [if_pos (by rw [hw0, hw1]; rfl)]
    by_cases c : val l0 < val l1
    · exact ⟨_, _, if_pos c, by simp⟩
    · exact ⟨_, _, if_neg c, le _ _ (Nat.lt_of_le_of_lt (Nat.sub_le _ _) v0) (by omega)⟩
  obtain ⟨s, g, hs, ls⟩ : ∃ s g, nat_Shl.f l0 n = some (s, g) ∧ s.length ≤ 4194304 := by
    unfold nat_Shl.f
    rw [if_pos hs0]
    by_cases c : n < 0 ∨ 65536 < n
    · exact ⟨_, _, if_pos c, by simp⟩
    · obtain ⟨M, hM⟩ : ∃ M : Nat, M = 1024 := ⟨_, rfl⟩
      refine ⟨_, _, if_neg c, le _ (l0.length + M) ?_ (by omega)⟩
      rw [Nat.pow_add]
      have h2 : (2 : Nat) ^ n.toNat ≤ 2 ^ (64 * M) := Nat.pow_le_pow_right (by omega) (by omega)
      have h3 : (2 : Nat) ^ (64 * M) = 18446744073709551616 ^ M := by rw [Nat.pow_mul]
      rw [← h3]
      exact Nat.mul_lt_mul_of_lt_of_le v0 h2 (Nat.pow_pos (by omega))
  obtain ⟨t, h, ht, lt⟩ : ∃ t h, nat_Shr.f (l0.length * (l1.length + 2) + l0.length + l1.length + 2 + 2 * l0.length + 4) l0 n = some (t, h) ∧ t.length ≤ 4194304 := by
    by_cases c : n < 0
    · exact ⟨_, _, by unfold nat_Shr.f; rw [if_pos c], by simp⟩
    · obtain ⟨m, rfl⟩ : ∃ m : Nat, n = m := ⟨n.toNat, by omega⟩
      exact ⟨_, _, Shr_ge l0 h0 (by omega) m (by omega) _ (by omega), le _ _ (Nat.lt_of_le_of_lt (Nat.div_le_self _ _) v0) (by omega)⟩
  refine ⟨q, r, d, s, t, _, _, _, e, f, g, h, _, hdiv, hd, hs, ht, Norm_ge l0 h0 (by omega) _ ?_, by unfold nat_Add.f; rw [if_pos (by rw [hw0, hw1]; rfl)], Mul_ge l0 l1 h0 h1 (by omega) _ ?_, lq, lr, ld, ls, lt, ?_, ?_, ?_⟩
  · omega
  · omega
  · exact Nat.le_trans (limbs_le l0 h0) (by omega)
  · refine le _ (max l0.length l1.length + 1) ?_ (by omega)
    have a1 := pow_up (show l0.length ≤ max l0.length l1.length by omega)
    have a2 := pow_up (show l1.length ≤ max l0.length l1.length by omega)
    rw [Nat.pow_succ]
    omega
  · refine le _ (l0.length + l1.length) ?_ (by omega)
    rw [Nat.pow_add]
    exact Nat.mul_lt_mul_of_lt_of_le v0 (Nat.le_of_lt v1) p1
def SB (V : Nat → Value) (i : Nat) (b : Nat) : Prop := ∃ j, j < i ∧ (V j).ownBlock = some b
theorem SB_up (V : Nat → Value) (i : Nat) : ∀ k, SB V i k → SB V (i + 1) k := fun _ ⟨j, hj, e⟩ => ⟨j, by omega, e⟩
theorem SB_base {V : Nat → Value} {i b b0 b1 gL : Nat} (h : ∀ j, j < 8 → ∀ b, (V j).ownBlock = some b → b0 ≤ b ∧ b < b1 ∧ b ≠ gL) (hi : i ≤ 8) (hb : SB V i b) : b0 ≤ b := by
  obtain ⟨j, hj, e⟩ := hb
  exact (h j (by omega) b e).1
theorem R_keptS {w w1 : World} {base : Nat} {ok S : Nat → Prop} {v : Value} {xs : List Int} (h : Kd.R (Kd.int .u64) 46 w base ok v xs) (hk : Kept w w1 S) (hne : ∀ k, v.ownBlock = some k → ¬ S k) : Kd.R (Kd.int .u64) 46 w1 base ok v xs :=
  Kd.R_mono (Kd.R_kept (Kd.R_tight2 rfl h) hk (fun k hk' hs => hne k hk'.1.symm hs)) (fun _ hk => hk.2)
theorem ap_SB' {b i k : Nat} {w : World} {V : Nat → Value} {X : Nat → List Int} (h : S8 b w V X) (hk : k < 8) (hik : i ≤ k) (hi : i < 8) : ∀ b, (V k).ownBlock = some b → ¬ SB V i b :=
  fun b hb ⟨j, hj, e⟩ => h.ap j k (by omega) hk (by omega) b e hb
theorem ap_SB {b i : Nat} {w : World} {V : Nat → Value} {X : Nat → List Int} (h : S8 b w V X) (hi : i < 8) : ∀ b, (V i).ownBlock = some b → ¬ SB V i b := ap_SB' h hi (Nat.le_refl _) hi
theorem same_true (l : List Int) (h : l.length ≤ 4194304) : quipuref01_Same.f (l.length + 1) l l = some true := by
  have HS := Same_all l l (by omega) (l.length + 1) (Nat.le_refl _)
  rwa [decide_eq_true rfl] at HS
end Go.Proofs.Ytfaknblpkegekaa.Q
end
section
namespace Go.Proofs.Ytfaknblpkegekaa.Q
open Go.RowKit Go.Proofs.YtfaknblpkegekaaW.PrintWords Go.Proofs.YtfaknblpkegekaaW.PrintLast Go.Proofs.YtfaknblpkegekaaW.PrintMore
attribute [local go_sem] max2_int min2_int max_two min_two max_three min_three max_four min_four   -- for this text's walks alone
set_option linter.unusedVariables false
set_option linter.unusedSimpArgs false

def quipulaw01_awake.f (k : Nat)  : Option (Bool) := (some (([18446744073709551615] : List Int) : List Int)).bind fun y190 => ((nat_Sub.f (([0, 1] : List Int)) (([1] : List Int))).bind fun bt199 => ((nat_Sub.f (([1] : List Int)) (([2] : List Int))).bind fun bt209 => ((nat_DivMod.f (([7] : List Int)) (([2] : List Int))).bind fun bt219 => ((nat_DivMod.f (([1] : List Int)) (([0, 0] : List Int))).bind fun bt232 => ((nat_Shl.f (([3] : List Int)) 63).bind fun bt242 => ((nat_Shl.f (([1] : List Int)) 65537).bind fun bt249 => ((nat_Shr.f k (([0, 1] : List Int)) 1).bind fun bt256 => ((nat_Add.f y190 (([1] : List Int))).bind fun t263 => ((quipuref01_Same.f k t263 (([0, 1] : List Int))).bind fun t269 => (if t269 = true then ((quipuref01_Same.f k bt199.1 y190).bind fun t270 => (if t270 = true then (if bt199.2 = 0 then (if bt209.2 = 10 then ((quipuref01_Same.f k bt219.1 (([3] : List Int))).bind fun t274 => (if t274 = true then ((quipuref01_Same.f k bt219.2.1 (([1] : List Int))).bind fun t278 => (if t278 = true then (if bt219.2.2 = 0 then (if bt232.2.2 = 11 then ((quipuref01_Same.f k bt242.1 (([9223372036854775808, 1] : List Int))).bind fun t282 => (if t282 = true then (if bt242.2 = 0 then (if bt249.2 = 12 then ((quipuref01_Same.f k bt256.1 (([9223372036854775808] : List Int))).bind fun t286 => (if t286 = true then (if bt256.2 = 0 then ((nat_Norm.f k (([0] : List Int))).bind fun t290 => (if (t290.length : Int) = 0 then ((nat_Bits.f k y190).bind fun t293 => (if t293 = 64 then ((nat_Cmp.f k y190 ([] : List Int)).bind fun t294 => (if t294 = 1 then ((nat_Mul.f k y190 y190).bind fun t295 => ((quipuref01_Same.f k t295 (([1, 18446744073709551614] : List Int))).bind fun t301 => (if t301 = true then ((nat_Of.f k 5).bind fun t302 => ((quipuref01_Same.f k t302 (([5] : List Int))).bind fun t308 => (if t308 = true then (some true) else (none)))) else (none)))) else (none))) else (none))) else (none))) else (none)) else (none))) else (none)) else (none)) else (none))) else (none)) else (none)) else (none))) else (none))) else (none)) else (none)) else (none))) else (none)))))))))))
set_option maxHeartbeats 8000000 in
set_option maxRecDepth 100000 in
theorem quipulaw01_awake.calls (k : Nat)  (r : Bool) (w : World) (h : quipulaw01_awake.f k  = some r) :
    Calls Try.prog 14 #[] w fun e w' => e = .returned (.bool r) ∧ Below w.heap.size w w' := by
  have HB := Aside0.mk (Below.refl w.heap.size w)
  have H : ((some (([18446744073709551615] : List Int) : List Int)).bind fun y190 => ((nat_Sub.f (([0, 1] : List Int)) (([1] : List Int))).bind fun bt199 => ((nat_Sub.f (([1] : List Int)) (([2] : List Int))).bind fun bt209 => ((nat_DivMod.f (([7] : List Int)) (([2] : List Int))).bind fun bt219 => ((nat_DivMod.f (([1] : List Int)) (([0, 0] : List Int))).bind fun bt232 => ((nat_Shl.f (([3] : List Int)) 63).bind fun bt242 => ((nat_Shl.f (([1] : List Int)) 65537).bind fun bt249 => ((nat_Shr.f k (([0, 1] : List Int)) 1).bind fun bt256 => ((nat_Add.f y190 (([1] : List Int))).bind fun t263 => ((quipuref01_Same.f k t263 (([0, 1] : List Int))).bind fun t269 => (if t269 = true then ((quipuref01_Same.f k bt199.1 y190).bind fun t270 => (if t270 = true then (if bt199.2 = 0 then (if bt209.2 = 10 then ((quipuref01_Same.f k bt219.1 (([3] : List Int))).bind fun t274 => (if t274 = true then ((quipuref01_Same.f k bt219.2.1 (([1] : List Int))).bind fun t278 => (if t278 = true then (if bt219.2.2 = 0 then (if bt232.2.2 = 11 then ((quipuref01_Same.f k bt242.1 (([9223372036854775808, 1] : List Int))).bind fun t282 => (if t282 = true then (if bt242.2 = 0 then (if bt249.2 = 12 then ((quipuref01_Same.f k bt256.1 (([9223372036854775808] : List Int))).bind fun t286 => (if t286 = true then (if bt256.2 = 0 then ((nat_Norm.f k (([0] : List Int))).bind fun t290 => (if (t290.length : Int) = 0 then ((nat_Bits.f k y190).bind fun t293 => (if t293 = 64 then ((nat_Cmp.f k y190 ([] : List Int)).bind fun t294 => (if t294 = 1 then ((nat_Mul.f k y190 y190).bind fun t295 => ((quipuref01_Same.f k t295 (([1, 18446744073709551614] : List Int))).bind fun t301 => (if t301 = true then ((nat_Of.f k 5).bind fun t302 => ((quipuref01_Same.f k t302 (([5] : List Int))).bind fun t308 => (if t308 = true then (some true) else (none)))) else (none)))) else (none))) else (none))) else (none))) else (none)) else (none))) else (none)) else (none)) else (none))) else (none)) else (none)) else (none))) else (none))) else (none)) else (none)) else (none))) else (none)))))))))))) = some r := h
  clear h
  obtain ⟨y190, hy190⟩ : ∃ y_ : List Int, y_ = (([18446744073709551615] : List Int)) := ⟨_, rfl⟩
  replace H : ((nat_Sub.f (([0, 1] : List Int)) (([1] : List Int))).bind fun bt199 => ((nat_Sub.f (([1] : List Int)) (([2] : List Int))).bind fun bt209 => ((nat_DivMod.f (([7] : List Int)) (([2] : List Int))).bind fun bt219 => ((nat_DivMod.f (([1] : List Int)) (([0, 0] : List Int))).bind fun bt232 => ((nat_Shl.f (([3] : List Int)) 63).bind fun bt242 => ((nat_Shl.f (([1] : List Int)) 65537).bind fun bt249 => ((nat_Shr.f k (([0, 1] : List Int)) 1).bind fun bt256 => ((nat_Add.f y190 (([1] : List Int))).bind fun t263 => ((quipuref01_Same.f k t263 (([0, 1] : List Int))).bind fun t269 => (if t269 = true then ((quipuref01_Same.f k bt199.1 y190).bind fun t270 => (if t270 = true then (if bt199.2 = 0 then (if bt209.2 = 10 then ((quipuref01_Same.f k bt219.1 (([3] : List Int))).bind fun t274 => (if t274 = true then ((quipuref01_Same.f k bt219.2.1 (([1] : List Int))).bind fun t278 => (if t278 = true then (if bt219.2.2 = 0 then (if bt232.2.2 = 11 then ((quipuref01_Same.f k bt242.1 (([9223372036854775808, 1] : List Int))).bind fun t282 => (if t282 = true then (if bt242.2 = 0 then (if bt249.2 = 12 then ((quipuref01_Same.f k bt256.1 (([9223372036854775808] : List Int))).bind fun t286 => (if t286 = true then (if bt256.2 = 0 then ((nat_Norm.f k (([0] : List Int))).bind fun t290 => (if (t290.length : Int) = 0 then ((nat_Bits.f k y190).bind fun t293 => (if t293 = 64 then ((nat_Cmp.f k y190 ([] : List Int)).bind fun t294 => (if t294 = 1 then ((nat_Mul.f k y190 y190).bind fun t295 => ((quipuref01_Same.f k t295 (([1, 18446744073709551614] : List Int))).bind fun t301 => (if t301 = true then ((nat_Of.f k 5).bind fun t302 => ((quipuref01_Same.f k t302 (([5] : List Int))).bind fun t308 => (if t308 = true then (some true) else (none)))) else (none)))) else (none))) else (none))) else (none))) else (none)) else (none))) else (none)) else (none)) else (none))) else (none)) else (none)) else (none))) else (none))) else (none)) else (none)) else (none))) else (none))))))))))) = some r := by first | (rw [hy190]; with_reducible exact H) | (have H2_ := (Option.bind_some _ _).symm.trans H; rw [hy190]; with_reducible exact H2_) | (have H2_ := (Option.bind_some _ _).symm.trans H; with_reducible exact H2_) | with_reducible exact H | (rw [hy190]; exact H) | exact H
  have Ny190 := Aside0.mk hy190
  clear hy190
  obtain ⟨y193, hy193⟩ : ∃ y_ : List Int, y_ = (([0, 1] : List Int)) := ⟨_, rfl⟩
  replace H : ((nat_Sub.f y193 (([1] : List Int))).bind fun bt199 => ((nat_Sub.f (([1] : List Int)) (([2] : List Int))).bind fun bt209 => ((nat_DivMod.f (([7] : List Int)) (([2] : List Int))).bind fun bt219 => ((nat_DivMod.f (([1] : List Int)) (([0, 0] : List Int))).bind fun bt232 => ((nat_Shl.f (([3] : List Int)) 63).bind fun bt242 => ((nat_Shl.f (([1] : List Int)) 65537).bind fun bt249 => ((nat_Shr.f k (([0, 1] : List Int)) 1).bind fun bt256 => ((nat_Add.f y190 (([1] : List Int))).bind fun t263 => ((quipuref01_Same.f k t263 (([0, 1] : List Int))).bind fun t269 => (if t269 = true then ((quipuref01_Same.f k bt199.1 y190).bind fun t270 => (if t270 = true then (if bt199.2 = 0 then (if bt209.2 = 10 then ((quipuref01_Same.f k bt219.1 (([3] : List Int))).bind fun t274 => (if t274 = true then ((quipuref01_Same.f k bt219.2.1 (([1] : List Int))).bind fun t278 => (if t278 = true then (if bt219.2.2 = 0 then (if bt232.2.2 = 11 then ((quipuref01_Same.f k bt242.1 (([9223372036854775808, 1] : List Int))).bind fun t282 => (if t282 = true then (if bt242.2 = 0 then (if bt249.2 = 12 then ((quipuref01_Same.f k bt256.1 (([9223372036854775808] : List Int))).bind fun t286 => (if t286 = true then (if bt256.2 = 0 then ((nat_Norm.f k (([0] : List Int))).bind fun t290 => (if (t290.length : Int) = 0 then ((nat_Bits.f k y190).bind fun t293 => (if t293 = 64 then ((nat_Cmp.f k y190 ([] : List Int)).bind fun t294 => (if t294 = 1 then ((nat_Mul.f k y190 y190).bind fun t295 => ((quipuref01_Same.f k t295 (([1, 18446744073709551614] : List Int))).bind fun t301 => (if t301 = true then ((nat_Of.f k 5).bind fun t302 => ((quipuref01_Same.f k t302 (([5] : List Int))).bind fun t308 => (if t308 = true then (some true) else (none)))) else (none)))) else (none))) else (none))) else (none))) else (none)) else (none))) else (none)) else (none)) else (none))) else (none)) else (none)) else (none))) else (none))) else (none)) else (none)) else (none))) else (none))))))))))) = some r := by first | (rw [hy193]; with_reducible exact H) | (have H2_ := (Option.bind_some _ _).symm.trans H; rw [hy193]; with_reducible exact H2_) | (have H2_ := (Option.bind_some _ _).symm.trans H; with_reducible exact H2_) | with_reducible exact H | (rw [hy193]; exact H) | exact H
  have Ny193 := Aside0.mk hy193
  clear hy193
  obtain ⟨y196, hy196⟩ : ∃ y_ : List Int, y_ = (([1] : List Int)) := ⟨_, rfl⟩
  replace H : ((nat_Sub.f y193 y196).bind fun bt199 => ((nat_Sub.f (([1] : List Int)) (([2] : List Int))).bind fun bt209 => ((nat_DivMod.f (([7] : List Int)) (([2] : List Int))).bind fun bt219 => ((nat_DivMod.f (([1] : List Int)) (([0, 0] : List Int))).bind fun bt232 => ((nat_Shl.f (([3] : List Int)) 63).bind fun bt242 => ((nat_Shl.f (([1] : List Int)) 65537).bind fun bt249 => ((nat_Shr.f k (([0, 1] : List Int)) 1).bind fun bt256 => ((nat_Add.f y190 (([1] : List Int))).bind fun t263 => ((quipuref01_Same.f k t263 (([0, 1] : List Int))).bind fun t269 => (if t269 = true then ((quipuref01_Same.f k bt199.1 y190).bind fun t270 => (if t270 = true then (if bt199.2 = 0 then (if bt209.2 = 10 then ((quipuref01_Same.f k bt219.1 (([3] : List Int))).bind fun t274 => (if t274 = true then ((quipuref01_Same.f k bt219.2.1 (([1] : List Int))).bind fun t278 => (if t278 = true then (if bt219.2.2 = 0 then (if bt232.2.2 = 11 then ((quipuref01_Same.f k bt242.1 (([9223372036854775808, 1] : List Int))).bind fun t282 => (if t282 = true then (if bt242.2 = 0 then (if bt249.2 = 12 then ((quipuref01_Same.f k bt256.1 (([9223372036854775808] : List Int))).bind fun t286 => (if t286 = true then (if bt256.2 = 0 then ((nat_Norm.f k (([0] : List Int))).bind fun t290 => (if (t290.length : Int) = 0 then ((nat_Bits.f k y190).bind fun t293 => (if t293 = 64 then ((nat_Cmp.f k y190 ([] : List Int)).bind fun t294 => (if t294 = 1 then ((nat_Mul.f k y190 y190).bind fun t295 => ((quipuref01_Same.f k t295 (([1, 18446744073709551614] : List Int))).bind fun t301 => (if t301 = true then ((nat_Of.f k 5).bind fun t302 => ((quipuref01_Same.f k t302 (([5] : List Int))).bind fun t308 => (if t308 = true then (some true) else (none)))) else (none)))) else (none))) else (none))) else (none))) else (none)) else (none))) else (none)) else (none)) else (none))) else (none)) else (none)) else (none))) else (none))) else (none)) else (none)) else (none))) else (none))))))))))) = some r := by first | (rw [hy196]; with_reducible exact H) | (have H2_ := (Option.bind_some _ _).symm.trans H; rw [hy196]; with_reducible exact H2_) | (have H2_ := (Option.bind_some _ _).symm.trans H; with_reducible exact H2_) | with_reducible exact H | (rw [hy196]; exact H) | exact H
  have Ny196 := Aside0.mk hy196
  clear hy196
  replace H := Option.bind_eq_some_iff.mp H
  obtain ⟨⟨t199, t202⟩, A10, H⟩ := H
  (try dsimp only at H)
  have A1 := Aside0.mk A10
  clear A10
  obtain ⟨y203, hy203⟩ : ∃ y_ : List Int, y_ = (([1] : List Int)) := ⟨_, rfl⟩
  replace H : ((nat_Sub.f y203 (([2] : List Int))).bind fun bt209 => ((nat_DivMod.f (([7] : List Int)) (([2] : List Int))).bind fun bt219 => ((nat_DivMod.f (([1] : List Int)) (([0, 0] : List Int))).bind fun bt232 => ((nat_Shl.f (([3] : List Int)) 63).bind fun bt242 => ((nat_Shl.f (([1] : List Int)) 65537).bind fun bt249 => ((nat_Shr.f k (([0, 1] : List Int)) 1).bind fun bt256 => ((nat_Add.f y190 (([1] : List Int))).bind fun t263 => ((quipuref01_Same.f k t263 (([0, 1] : List Int))).bind fun t269 => (if t269 = true then ((quipuref01_Same.f k t199 y190).bind fun t270 => (if t270 = true then (if t202 = 0 then (if bt209.2 = 10 then ((quipuref01_Same.f k bt219.1 (([3] : List Int))).bind fun t274 => (if t274 = true then ((quipuref01_Same.f k bt219.2.1 (([1] : List Int))).bind fun t278 => (if t278 = true then (if bt219.2.2 = 0 then (if bt232.2.2 = 11 then ((quipuref01_Same.f k bt242.1 (([9223372036854775808, 1] : List Int))).bind fun t282 => (if t282 = true then (if bt242.2 = 0 then (if bt249.2 = 12 then ((quipuref01_Same.f k bt256.1 (([9223372036854775808] : List Int))).bind fun t286 => (if t286 = true then (if bt256.2 = 0 then ((nat_Norm.f k (([0] : List Int))).bind fun t290 => (if (t290.length : Int) = 0 then ((nat_Bits.f k y190).bind fun t293 => (if t293 = 64 then ((nat_Cmp.f k y190 ([] : List Int)).bind fun t294 => (if t294 = 1 then ((nat_Mul.f k y190 y190).bind fun t295 => ((quipuref01_Same.f k t295 (([1, 18446744073709551614] : List Int))).bind fun t301 => (if t301 = true then ((nat_Of.f k 5).bind fun t302 => ((quipuref01_Same.f k t302 (([5] : List Int))).bind fun t308 => (if t308 = true then (some true) else (none)))) else (none)))) else (none))) else (none))) else (none))) else (none)) else (none))) else (none)) else (none)) else (none))) else (none)) else (none)) else (none))) else (none))) else (none)) else (none)) else (none))) else (none)))))))))) = some r := by first | (rw [hy203]; with_reducible exact H) | (have H2_ := (Option.bind_some _ _).symm.trans H; rw [hy203]; with_reducible exact H2_) | (have H2_ := (Option.bind_some _ _).symm.trans H; with_reducible exact H2_) | with_reducible exact H | (rw [hy203]; exact H) | exact H
  have Ny203 := Aside0.mk hy203
  clear hy203
  obtain ⟨y206, hy206⟩ : ∃ y_ : List Int, y_ = (([2] : List Int)) := ⟨_, rfl⟩
  replace H : ((nat_Sub.f y203 y206).bind fun bt209 => ((nat_DivMod.f (([7] : List Int)) (([2] : List Int))).bind fun bt219 => ((nat_DivMod.f (([1] : List Int)) (([0, 0] : List Int))).bind fun bt232 => ((nat_Shl.f (([3] : List Int)) 63).bind fun bt242 => ((nat_Shl.f (([1] : List Int)) 65537).bind fun bt249 => ((nat_Shr.f k (([0, 1] : List Int)) 1).bind fun bt256 => ((nat_Add.f y190 (([1] : List Int))).bind fun t263 => ((quipuref01_Same.f k t263 (([0, 1] : List Int))).bind fun t269 => (if t269 = true then ((quipuref01_Same.f k t199 y190).bind fun t270 => (if t270 = true then (if t202 = 0 then (if bt209.2 = 10 then ((quipuref01_Same.f k bt219.1 (([3] : List Int))).bind fun t274 => (if t274 = true then ((quipuref01_Same.f k bt219.2.1 (([1] : List Int))).bind fun t278 => (if t278 = true then (if bt219.2.2 = 0 then (if bt232.2.2 = 11 then ((quipuref01_Same.f k bt242.1 (([9223372036854775808, 1] : List Int))).bind fun t282 => (if t282 = true then (if bt242.2 = 0 then (if bt249.2 = 12 then ((quipuref01_Same.f k bt256.1 (([9223372036854775808] : List Int))).bind fun t286 => (if t286 = true then (if bt256.2 = 0 then ((nat_Norm.f k (([0] : List Int))).bind fun t290 => (if (t290.length : Int) = 0 then ((nat_Bits.f k y190).bind fun t293 => (if t293 = 64 then ((nat_Cmp.f k y190 ([] : List Int)).bind fun t294 => (if t294 = 1 then ((nat_Mul.f k y190 y190).bind fun t295 => ((quipuref01_Same.f k t295 (([1, 18446744073709551614] : List Int))).bind fun t301 => (if t301 = true then ((nat_Of.f k 5).bind fun t302 => ((quipuref01_Same.f k t302 (([5] : List Int))).bind fun t308 => (if t308 = true then (some true) else (none)))) else (none)))) else (none))) else (none))) else (none))) else (none)) else (none))) else (none)) else (none)) else (none))) else (none)) else (none)) else (none))) else (none))) else (none)) else (none)) else (none))) else (none)))))))))) = some r := by first | (rw [hy206]; with_reducible exact H) | (have H2_ := (Option.bind_some _ _).symm.trans H; rw [hy206]; with_reducible exact H2_) | (have H2_ := (Option.bind_some _ _).symm.trans H; with_reducible exact H2_) | with_reducible exact H | (rw [hy206]; exact H) | exact H
  have Ny206 := Aside0.mk hy206
  clear hy206
  replace H := Option.bind_eq_some_iff.mp H
  obtain ⟨⟨t209, t212⟩, A20, H⟩ := H
  (try dsimp only at H)
  have A2 := Aside0.mk A20
  clear A20
  obtain ⟨y213, hy213⟩ : ∃ y_ : List Int, y_ = (([7] : List Int)) := ⟨_, rfl⟩
  replace H : ((nat_DivMod.f y213 (([2] : List Int))).bind fun bt219 => ((nat_DivMod.f (([1] : List Int)) (([0, 0] : List Int))).bind fun bt232 => ((nat_Shl.f (([3] : List Int)) 63).bind fun bt242 => ((nat_Shl.f (([1] : List Int)) 65537).bind fun bt249 => ((nat_Shr.f k (([0, 1] : List Int)) 1).bind fun bt256 => ((nat_Add.f y190 (([1] : List Int))).bind fun t263 => ((quipuref01_Same.f k t263 (([0, 1] : List Int))).bind fun t269 => (if t269 = true then ((quipuref01_Same.f k t199 y190).bind fun t270 => (if t270 = true then (if t202 = 0 then (if t212 = 10 then ((quipuref01_Same.f k bt219.1 (([3] : List Int))).bind fun t274 => (if t274 = true then ((quipuref01_Same.f k bt219.2.1 (([1] : List Int))).bind fun t278 => (if t278 = true then (if bt219.2.2 = 0 then (if bt232.2.2 = 11 then ((quipuref01_Same.f k bt242.1 (([9223372036854775808, 1] : List Int))).bind fun t282 => (if t282 = true then (if bt242.2 = 0 then (if bt249.2 = 12 then ((quipuref01_Same.f k bt256.1 (([9223372036854775808] : List Int))).bind fun t286 => (if t286 = true then (if bt256.2 = 0 then ((nat_Norm.f k (([0] : List Int))).bind fun t290 => (if (t290.length : Int) = 0 then ((nat_Bits.f k y190).bind fun t293 => (if t293 = 64 then ((nat_Cmp.f k y190 ([] : List Int)).bind fun t294 => (if t294 = 1 then ((nat_Mul.f k y190 y190).bind fun t295 => ((quipuref01_Same.f k t295 (([1, 18446744073709551614] : List Int))).bind fun t301 => (if t301 = true then ((nat_Of.f k 5).bind fun t302 => ((quipuref01_Same.f k t302 (([5] : List Int))).bind fun t308 => (if t308 = true then (some true) else (none)))) else (none)))) else (none))) else (none))) else (none))) else (none)) else (none))) else (none)) else (none)) else (none))) else (none)) else (none)) else (none))) else (none))) else (none)) else (none)) else (none))) else (none))))))))) = some r := by first | (rw [hy213]; with_reducible exact H) | (have H2_ := (Option.bind_some _ _).symm.trans H; rw [hy213]; with_reducible exact H2_) | (have H2_ := (Option.bind_some _ _).symm.trans H; with_reducible exact H2_) | with_reducible exact H | (rw [hy213]; exact H) | exact H
  have Ny213 := Aside0.mk hy213
  clear hy213
  obtain ⟨y216, hy216⟩ : ∃ y_ : List Int, y_ = (([2] : List Int)) := ⟨_, rfl⟩
  replace H : ((nat_DivMod.f y213 y216).bind fun bt219 => ((nat_DivMod.f (([1] : List Int)) (([0, 0] : List Int))).bind fun bt232 => ((nat_Shl.f (([3] : List Int)) 63).bind fun bt242 => ((nat_Shl.f (([1] : List Int)) 65537).bind fun bt249 => ((nat_Shr.f k (([0, 1] : List Int)) 1).bind fun bt256 => ((nat_Add.f y190 (([1] : List Int))).bind fun t263 => ((quipuref01_Same.f k t263 (([0, 1] : List Int))).bind fun t269 => (if t269 = true then ((quipuref01_Same.f k t199 y190).bind fun t270 => (if t270 = true then (if t202 = 0 then (if t212 = 10 then ((quipuref01_Same.f k bt219.1 (([3] : List Int))).bind fun t274 => (if t274 = true then ((quipuref01_Same.f k bt219.2.1 (([1] : List Int))).bind fun t278 => (if t278 = true then (if bt219.2.2 = 0 then (if bt232.2.2 = 11 then ((quipuref01_Same.f k bt242.1 (([9223372036854775808, 1] : List Int))).bind fun t282 => (if t282 = true then (if bt242.2 = 0 then (if bt249.2 = 12 then ((quipuref01_Same.f k bt256.1 (([9223372036854775808] : List Int))).bind fun t286 => (if t286 = true then (if bt256.2 = 0 then ((nat_Norm.f k (([0] : List Int))).bind fun t290 => (if (t290.length : Int) = 0 then ((nat_Bits.f k y190).bind fun t293 => (if t293 = 64 then ((nat_Cmp.f k y190 ([] : List Int)).bind fun t294 => (if t294 = 1 then ((nat_Mul.f k y190 y190).bind fun t295 => ((quipuref01_Same.f k t295 (([1, 18446744073709551614] : List Int))).bind fun t301 => (if t301 = true then ((nat_Of.f k 5).bind fun t302 => ((quipuref01_Same.f k t302 (([5] : List Int))).bind fun t308 => (if t308 = true then (some true) else (none)))) else (none)))) else (none))) else (none))) else (none))) else (none)) else (none))) else (none)) else (none)) else (none))) else (none)) else (none)) else (none))) else (none))) else (none)) else (none)) else (none))) else (none))))))))) = some r := by first | (rw [hy216]; with_reducible exact H) | (have H2_ := (Option.bind_some _ _).symm.trans H; rw [hy216]; with_reducible exact H2_) | (have H2_ := (Option.bind_some _ _).symm.trans H; with_reducible exact H2_) | with_reducible exact H | (rw [hy216]; exact H) | exact H
  have Ny216 := Aside0.mk hy216
  clear hy216
  replace H := Option.bind_eq_some_iff.mp H
  obtain ⟨⟨t219, t222, t225⟩, A30, H⟩ := H
  (try dsimp only at H)
  have A3 := Aside0.mk A30
  clear A30
  obtain ⟨y226, hy226⟩ : ∃ y_ : List Int, y_ = (([1] : List Int)) := ⟨_, rfl⟩
  replace H : ((nat_DivMod.f y226 (([0, 0] : List Int))).bind fun bt232 => ((nat_Shl.f (([3] : List Int)) 63).bind fun bt242 => ((nat_Shl.f (([1] : List Int)) 65537).bind fun bt249 => ((nat_Shr.f k (([0, 1] : List Int)) 1).bind fun bt256 => ((nat_Add.f y190 (([1] : List Int))).bind fun t263 => ((quipuref01_Same.f k t263 (([0, 1] : List Int))).bind fun t269 => (if t269 = true then ((quipuref01_Same.f k t199 y190).bind fun t270 => (if t270 = true then (if t202 = 0 then (if t212 = 10 then ((quipuref01_Same.f k t219 (([3] : List Int))).bind fun t274 => (if t274 = true then ((quipuref01_Same.f k t222 (([1] : List Int))).bind fun t278 => (if t278 = true then (if t225 = 0 then (if bt232.2.2 = 11 then ((quipuref01_Same.f k bt242.1 (([9223372036854775808, 1] : List Int))).bind fun t282 => (if t282 = true then (if bt242.2 = 0 then (if bt249.2 = 12 then ((quipuref01_Same.f k bt256.1 (([9223372036854775808] : List Int))).bind fun t286 => (if t286 = true then (if bt256.2 = 0 then ((nat_Norm.f k (([0] : List Int))).bind fun t290 => (if (t290.length : Int) = 0 then ((nat_Bits.f k y190).bind fun t293 => (if t293 = 64 then ((nat_Cmp.f k y190 ([] : List Int)).bind fun t294 => (if t294 = 1 then ((nat_Mul.f k y190 y190).bind fun t295 => ((quipuref01_Same.f k t295 (([1, 18446744073709551614] : List Int))).bind fun t301 => (if t301 = true then ((nat_Of.f k 5).bind fun t302 => ((quipuref01_Same.f k t302 (([5] : List Int))).bind fun t308 => (if t308 = true then (some true) else (none)))) else (none)))) else (none))) else (none))) else (none))) else (none)) else (none))) else (none)) else (none)) else (none))) else (none)) else (none)) else (none))) else (none))) else (none)) else (none)) else (none))) else (none)))))))) = some r := by first | (rw [hy226]; with_reducible exact H) | (have H2_ := (Option.bind_some _ _).symm.trans H; rw [hy226]; with_reducible exact H2_) | (have H2_ := (Option.bind_some _ _).symm.trans H; with_reducible exact H2_) | with_reducible exact H | (rw [hy226]; exact H) | exact H
  have Ny226 := Aside0.mk hy226
  clear hy226
  obtain ⟨y229, hy229⟩ : ∃ y_ : List Int, y_ = (([0, 0] : List Int)) := ⟨_, rfl⟩
  replace H : ((nat_DivMod.f y226 y229).bind fun bt232 => ((nat_Shl.f (([3] : List Int)) 63).bind fun bt242 => ((nat_Shl.f (([1] : List Int)) 65537).bind fun bt249 => ((nat_Shr.f k (([0, 1] : List Int)) 1).bind fun bt256 => ((nat_Add.f y190 (([1] : List Int))).bind fun t263 => ((quipuref01_Same.f k t263 (([0, 1] : List Int))).bind fun t269 => (if t269 = true then ((quipuref01_Same.f k t199 y190).bind fun t270 => (if t270 = true then (if t202 = 0 then (if t212 = 10 then ((quipuref01_Same.f k t219 (([3] : List Int))).bind fun t274 => (if t274 = true then ((quipuref01_Same.f k t222 (([1] : List Int))).bind fun t278 => (if t278 = true then (if t225 = 0 then (if bt232.2.2 = 11 then ((quipuref01_Same.f k bt242.1 (([9223372036854775808, 1] : List Int))).bind fun t282 => (if t282 = true then (if bt242.2 = 0 then (if bt249.2 = 12 then ((quipuref01_Same.f k bt256.1 (([9223372036854775808] : List Int))).bind fun t286 => (if t286 = true then (if bt256.2 = 0 then ((nat_Norm.f k (([0] : List Int))).bind fun t290 => (if (t290.length : Int) = 0 then ((nat_Bits.f k y190).bind fun t293 => (if t293 = 64 then ((nat_Cmp.f k y190 ([] : List Int)).bind fun t294 => (if t294 = 1 then ((nat_Mul.f k y190 y190).bind fun t295 => ((quipuref01_Same.f k t295 (([1, 18446744073709551614] : List Int))).bind fun t301 => (if t301 = true then ((nat_Of.f k 5).bind fun t302 => ((quipuref01_Same.f k t302 (([5] : List Int))).bind fun t308 => (if t308 = true then (some true) else (none)))) else (none)))) else (none))) else (none))) else (none))) else (none)) else (none))) else (none)) else (none)) else (none))) else (none)) else (none)) else (none))) else (none))) else (none)) else (none)) else (none))) else (none)))))))) = some r := by first | (rw [hy229]; with_reducible exact H) | (have H2_ := (Option.bind_some _ _).symm.trans H; rw [hy229]; with_reducible exact H2_) | (have H2_ := (Option.bind_some _ _).symm.trans H; with_reducible exact H2_) | with_reducible exact H | (rw [hy229]; exact H) | exact H
  have Ny229 := Aside0.mk hy229
  clear hy229
  replace H := Option.bind_eq_some_iff.mp H
  obtain ⟨⟨t232, t235, t238⟩, A40, H⟩ := H
  (try dsimp only at H)
  have A4 := Aside0.mk A40
  clear A40
  obtain ⟨y239, hy239⟩ : ∃ y_ : List Int, y_ = (([3] : List Int)) := ⟨_, rfl⟩
  replace H : ((nat_Shl.f y239 63).bind fun bt242 => ((nat_Shl.f (([1] : List Int)) 65537).bind fun bt249 => ((nat_Shr.f k (([0, 1] : List Int)) 1).bind fun bt256 => ((nat_Add.f y190 (([1] : List Int))).bind fun t263 => ((quipuref01_Same.f k t263 (([0, 1] : List Int))).bind fun t269 => (if t269 = true then ((quipuref01_Same.f k t199 y190).bind fun t270 => (if t270 = true then (if t202 = 0 then (if t212 = 10 then ((quipuref01_Same.f k t219 (([3] : List Int))).bind fun t274 => (if t274 = true then ((quipuref01_Same.f k t222 (([1] : List Int))).bind fun t278 => (if t278 = true then (if t225 = 0 then (if t238 = 11 then ((quipuref01_Same.f k bt242.1 (([9223372036854775808, 1] : List Int))).bind fun t282 => (if t282 = true then (if bt242.2 = 0 then (if bt249.2 = 12 then ((quipuref01_Same.f k bt256.1 (([9223372036854775808] : List Int))).bind fun t286 => (if t286 = true then (if bt256.2 = 0 then ((nat_Norm.f k (([0] : List Int))).bind fun t290 => (if (t290.length : Int) = 0 then ((nat_Bits.f k y190).bind fun t293 => (if t293 = 64 then ((nat_Cmp.f k y190 ([] : List Int)).bind fun t294 => (if t294 = 1 then ((nat_Mul.f k y190 y190).bind fun t295 => ((quipuref01_Same.f k t295 (([1, 18446744073709551614] : List Int))).bind fun t301 => (if t301 = true then ((nat_Of.f k 5).bind fun t302 => ((quipuref01_Same.f k t302 (([5] : List Int))).bind fun t308 => (if t308 = true then (some true) else (none)))) else (none)))) else (none))) else (none))) else (none))) else (none)) else (none))) else (none)) else (none)) else (none))) else (none)) else (none)) else (none))) else (none))) else (none)) else (none)) else (none))) else (none))))))) = some r := by first | (rw [hy239]; with_reducible exact H) | (have H2_ := (Option.bind_some _ _).symm.trans H; rw [hy239]; with_reducible exact H2_) | (have H2_ := (Option.bind_some _ _).symm.trans H; with_reducible exact H2_) | with_reducible exact H | (rw [hy239]; exact H) | exact H
  have Ny239 := Aside0.mk hy239
  clear hy239
  replace H := Option.bind_eq_some_iff.mp H
  obtain ⟨⟨t242, t245⟩, A50, H⟩ := H
  (try dsimp only at H)
  have A5 := Aside0.mk A50
  clear A50
  obtain ⟨y246, hy246⟩ : ∃ y_ : List Int, y_ = (([1] : List Int)) := ⟨_, rfl⟩
  replace H : ((nat_Shl.f y246 65537).bind fun bt249 => ((nat_Shr.f k (([0, 1] : List Int)) 1).bind fun bt256 => ((nat_Add.f y190 (([1] : List Int))).bind fun t263 => ((quipuref01_Same.f k t263 (([0, 1] : List Int))).bind fun t269 => (if t269 = true then ((quipuref01_Same.f k t199 y190).bind fun t270 => (if t270 = true then (if t202 = 0 then (if t212 = 10 then ((quipuref01_Same.f k t219 (([3] : List Int))).bind fun t274 => (if t274 = true then ((quipuref01_Same.f k t222 (([1] : List Int))).bind fun t278 => (if t278 = true then (if t225 = 0 then (if t238 = 11 then ((quipuref01_Same.f k t242 (([9223372036854775808, 1] : List Int))).bind fun t282 => (if t282 = true then (if t245 = 0 then (if bt249.2 = 12 then ((quipuref01_Same.f k bt256.1 (([9223372036854775808] : List Int))).bind fun t286 => (if t286 = true then (if bt256.2 = 0 then ((nat_Norm.f k (([0] : List Int))).bind fun t290 => (if (t290.length : Int) = 0 then ((nat_Bits.f k y190).bind fun t293 => (if t293 = 64 then ((nat_Cmp.f k y190 ([] : List Int)).bind fun t294 => (if t294 = 1 then ((nat_Mul.f k y190 y190).bind fun t295 => ((quipuref01_Same.f k t295 (([1, 18446744073709551614] : List Int))).bind fun t301 => (if t301 = true then ((nat_Of.f k 5).bind fun t302 => ((quipuref01_Same.f k t302 (([5] : List Int))).bind fun t308 => (if t308 = true then (some true) else (none)))) else (none)))) else (none))) else (none))) else (none))) else (none)) else (none))) else (none)) else (none)) else (none))) else (none)) else (none)) else (none))) else (none))) else (none)) else (none)) else (none))) else (none)))))) = some r := by first | (rw [hy246]; with_reducible exact H) | (have H2_ := (Option.bind_some _ _).symm.trans H; rw [hy246]; with_reducible exact H2_) | (have H2_ := (Option.bind_some _ _).symm.trans H; with_reducible exact H2_) | with_reducible exact H | (rw [hy246]; exact H) | exact H
  have Ny246 := Aside0.mk hy246
  clear hy246
  replace H := Option.bind_eq_some_iff.mp H
  obtain ⟨⟨t249, t252⟩, A60, H⟩ := H
  (try dsimp only at H)
  have A6 := Aside0.mk A60
  clear A60
  obtain ⟨y253, hy253⟩ : ∃ y_ : List Int, y_ = (([0, 1] : List Int)) := ⟨_, rfl⟩
  replace H : ((nat_Shr.f k y253 1).bind fun bt256 => ((nat_Add.f y190 (([1] : List Int))).bind fun t263 => ((quipuref01_Same.f k t263 (([0, 1] : List Int))).bind fun t269 => (if t269 = true then ((quipuref01_Same.f k t199 y190).bind fun t270 => (if t270 = true then (if t202 = 0 then (if t212 = 10 then ((quipuref01_Same.f k t219 (([3] : List Int))).bind fun t274 => (if t274 = true then ((quipuref01_Same.f k t222 (([1] : List Int))).bind fun t278 => (if t278 = true then (if t225 = 0 then (if t238 = 11 then ((quipuref01_Same.f k t242 (([9223372036854775808, 1] : List Int))).bind fun t282 => (if t282 = true then (if t245 = 0 then (if t252 = 12 then ((quipuref01_Same.f k bt256.1 (([9223372036854775808] : List Int))).bind fun t286 => (if t286 = true then (if bt256.2 = 0 then ((nat_Norm.f k (([0] : List Int))).bind fun t290 => (if (t290.length : Int) = 0 then ((nat_Bits.f k y190).bind fun t293 => (if t293 = 64 then ((nat_Cmp.f k y190 ([] : List Int)).bind fun t294 => (if t294 = 1 then ((nat_Mul.f k y190 y190).bind fun t295 => ((quipuref01_Same.f k t295 (([1, 18446744073709551614] : List Int))).bind fun t301 => (if t301 = true then ((nat_Of.f k 5).bind fun t302 => ((quipuref01_Same.f k t302 (([5] : List Int))).bind fun t308 => (if t308 = true then (some true) else (none)))) else (none)))) else (none))) else (none))) else (none))) else (none)) else (none))) else (none)) else (none)) else (none))) else (none)) else (none)) else (none))) else (none))) else (none)) else (none)) else (none))) else (none))))) = some r := by first | (rw [hy253]; with_reducible exact H) | (have H2_ := (Option.bind_some _ _).symm.trans H; rw [hy253]; with_reducible exact H2_) | (have H2_ := (Option.bind_some _ _).symm.trans H; with_reducible exact H2_) | with_reducible exact H | (rw [hy253]; exact H) | exact H
  have Ny253 := Aside0.mk hy253
  clear hy253
  replace H := Option.bind_eq_some_iff.mp H
  obtain ⟨⟨t256, t259⟩, A70, H⟩ := H
  (try dsimp only at H)
  have A7 := Aside0.mk A70
  clear A70
  obtain ⟨y260, hy260⟩ : ∃ y_ : List Int, y_ = (([1] : List Int)) := ⟨_, rfl⟩
  replace H : ((nat_Add.f y190 y260).bind fun t263 => ((quipuref01_Same.f k t263 (([0, 1] : List Int))).bind fun t269 => (if t269 = true then ((quipuref01_Same.f k t199 y190).bind fun t270 => (if t270 = true then (if t202 = 0 then (if t212 = 10 then ((quipuref01_Same.f k t219 (([3] : List Int))).bind fun t274 => (if t274 = true then ((quipuref01_Same.f k t222 (([1] : List Int))).bind fun t278 => (if t278 = true then (if t225 = 0 then (if t238 = 11 then ((quipuref01_Same.f k t242 (([9223372036854775808, 1] : List Int))).bind fun t282 => (if t282 = true then (if t245 = 0 then (if t252 = 12 then ((quipuref01_Same.f k t256 (([9223372036854775808] : List Int))).bind fun t286 => (if t286 = true then (if t259 = 0 then ((nat_Norm.f k (([0] : List Int))).bind fun t290 => (if (t290.length : Int) = 0 then ((nat_Bits.f k y190).bind fun t293 => (if t293 = 64 then ((nat_Cmp.f k y190 ([] : List Int)).bind fun t294 => (if t294 = 1 then ((nat_Mul.f k y190 y190).bind fun t295 => ((quipuref01_Same.f k t295 (([1, 18446744073709551614] : List Int))).bind fun t301 => (if t301 = true then ((nat_Of.f k 5).bind fun t302 => ((quipuref01_Same.f k t302 (([5] : List Int))).bind fun t308 => (if t308 = true then (some true) else (none)))) else (none)))) else (none))) else (none))) else (none))) else (none)) else (none))) else (none)) else (none)) else (none))) else (none)) else (none)) else (none))) else (none))) else (none)) else (none)) else (none))) else (none)))) = some r := by first | (rw [hy260]; with_reducible exact H) | (have H2_ := (Option.bind_some _ _).symm.trans H; rw [hy260]; with_reducible exact H2_) | (have H2_ := (Option.bind_some _ _).symm.trans H; with_reducible exact H2_) | with_reducible exact H | (rw [hy260]; exact H) | exact H
  have Ny260 := Aside0.mk hy260
  clear hy260
  replace H := Option.bind_eq_some_iff.mp H
  obtain ⟨t263, A80, H⟩ := H
  (try dsimp only at H)
  have A8 := Aside0.mk A80
  clear A80
  obtain ⟨y266, hy266⟩ : ∃ y_ : List Int, y_ = (([0, 1] : List Int)) := ⟨_, rfl⟩
  replace H : ((quipuref01_Same.f k t263 y266).bind fun t269 => (if t269 = true then ((quipuref01_Same.f k t199 y190).bind fun t270 => (if t270 = true then (if t202 = 0 then (if t212 = 10 then ((quipuref01_Same.f k t219 (([3] : List Int))).bind fun t274 => (if t274 = true then ((quipuref01_Same.f k t222 (([1] : List Int))).bind fun t278 => (if t278 = true then (if t225 = 0 then (if t238 = 11 then ((quipuref01_Same.f k t242 (([9223372036854775808, 1] : List Int))).bind fun t282 => (if t282 = true then (if t245 = 0 then (if t252 = 12 then ((quipuref01_Same.f k t256 (([9223372036854775808] : List Int))).bind fun t286 => (if t286 = true then (if t259 = 0 then ((nat_Norm.f k (([0] : List Int))).bind fun t290 => (if (t290.length : Int) = 0 then ((nat_Bits.f k y190).bind fun t293 => (if t293 = 64 then ((nat_Cmp.f k y190 ([] : List Int)).bind fun t294 => (if t294 = 1 then ((nat_Mul.f k y190 y190).bind fun t295 => ((quipuref01_Same.f k t295 (([1, 18446744073709551614] : List Int))).bind fun t301 => (if t301 = true then ((nat_Of.f k 5).bind fun t302 => ((quipuref01_Same.f k t302 (([5] : List Int))).bind fun t308 => (if t308 = true then (some true) else (none)))) else (none)))) else (none))) else (none))) else (none))) else (none)) else (none))) else (none)) else (none)) else (none))) else (none)) else (none)) else (none))) else (none))) else (none)) else (none)) else (none))) else (none))) = some r := by first | (rw [hy266]; with_reducible exact H) | (have H2_ := (Option.bind_some _ _).symm.trans H; rw [hy266]; with_reducible exact H2_) | (have H2_ := (Option.bind_some _ _).symm.trans H; with_reducible exact H2_) | with_reducible exact H | (rw [hy266]; exact H) | exact H
  have Ny266 := Aside0.mk hy266
  clear hy266
  replace H := Option.bind_eq_some_iff.mp H
  obtain ⟨t269, A90, H⟩ := H
  (try dsimp only at H)
  have A9 := Aside0.mk A90
  clear A90
  by_cases c10 : t269 = true
  · subst c10
    have H1 : ((quipuref01_Same.f k t199 y190).bind fun t270 => (if t270 = true then (if t202 = 0 then (if t212 = 10 then ((quipuref01_Same.f k t219 (([3] : List Int))).bind fun t274 => (if t274 = true then ((quipuref01_Same.f k t222 (([1] : List Int))).bind fun t278 => (if t278 = true then (if t225 = 0 then (if t238 = 11 then ((quipuref01_Same.f k t242 (([9223372036854775808, 1] : List Int))).bind fun t282 => (if t282 = true then (if t245 = 0 then (if t252 = 12 then ((quipuref01_Same.f k t256 (([9223372036854775808] : List Int))).bind fun t286 => (if t286 = true then (if t259 = 0 then ((nat_Norm.f k (([0] : List Int))).bind fun t290 => (if (t290.length : Int) = 0 then ((nat_Bits.f k y190).bind fun t293 => (if t293 = 64 then ((nat_Cmp.f k y190 ([] : List Int)).bind fun t294 => (if t294 = 1 then ((nat_Mul.f k y190 y190).bind fun t295 => ((quipuref01_Same.f k t295 (([1, 18446744073709551614] : List Int))).bind fun t301 => (if t301 = true then ((nat_Of.f k 5).bind fun t302 => ((quipuref01_Same.f k t302 (([5] : List Int))).bind fun t308 => (if t308 = true then (some true) else (none)))) else (none)))) else (none))) else (none))) else (none))) else (none)) else (none))) else (none)) else (none)) else (none))) else (none)) else (none)) else (none))) else (none))) else (none)) else (none)) else (none))) = some r := by rw [if_pos rfl] at H; exact H
    clear H
    have H := H1
    clear H1
    replace H := Option.bind_eq_some_iff.mp H
    obtain ⟨t270, A110, H⟩ := H
    (try dsimp only at H)
    have A11 := Aside0.mk A110
    clear A110
    by_cases c12 : t270 = true
    · subst c12
      have H1 : (if t202 = 0 then (if t212 = 10 then ((quipuref01_Same.f k t219 (([3] : List Int))).bind fun t274 => (if t274 = true then ((quipuref01_Same.f k t222 (([1] : List Int))).bind fun t278 => (if t278 = true then (if t225 = 0 then (if t238 = 11 then ((quipuref01_Same.f k t242 (([9223372036854775808, 1] : List Int))).bind fun t282 => (if t282 = true then (if t245 = 0 then (if t252 = 12 then ((quipuref01_Same.f k t256 (([9223372036854775808] : List Int))).bind fun t286 => (if t286 = true then (if t259 = 0 then ((nat_Norm.f k (([0] : List Int))).bind fun t290 => (if (t290.length : Int) = 0 then ((nat_Bits.f k y190).bind fun t293 => (if t293 = 64 then ((nat_Cmp.f k y190 ([] : List Int)).bind fun t294 => (if t294 = 1 then ((nat_Mul.f k y190 y190).bind fun t295 => ((quipuref01_Same.f k t295 (([1, 18446744073709551614] : List Int))).bind fun t301 => (if t301 = true then ((nat_Of.f k 5).bind fun t302 => ((quipuref01_Same.f k t302 (([5] : List Int))).bind fun t308 => (if t308 = true then (some true) else (none)))) else (none)))) else (none))) else (none))) else (none))) else (none)) else (none))) else (none)) else (none)) else (none))) else (none)) else (none)) else (none))) else (none))) else (none)) else (none)) = some r := by rw [if_pos rfl] at H; exact H
      clear H
      have H := H1
      clear H1
      by_cases c13 : t202 = 0
      · rw [if_pos c13] at H
        have c13b0 : (t202 == 0) = true := beq_iff_eq.mpr c13
        have c13b1 : (t202 != 0) = false := bne_eq_false_iff_eq.mpr c13
        clear c13
        by_cases c14 : t212 = 10
        · rw [if_pos c14] at H
          have c14b0 : (t212 == 10) = true := beq_iff_eq.mpr c14
          have c14b1 : (t212 != 10) = false := bne_eq_false_iff_eq.mpr c14
          clear c14
          obtain ⟨y271, hy271⟩ : ∃ y_ : List Int, y_ = (([3] : List Int)) := ⟨_, rfl⟩
          replace H : ((quipuref01_Same.f k t219 y271).bind fun t274 => (if t274 = true then ((quipuref01_Same.f k t222 (([1] : List Int))).bind fun t278 => (if t278 = true then (if t225 = 0 then (if t238 = 11 then ((quipuref01_Same.f k t242 (([9223372036854775808, 1] : List Int))).bind fun t282 => (if t282 = true then (if t245 = 0 then (if t252 = 12 then ((quipuref01_Same.f k t256 (([9223372036854775808] : List Int))).bind fun t286 => (if t286 = true then (if t259 = 0 then ((nat_Norm.f k (([0] : List Int))).bind fun t290 => (if (t290.length : Int) = 0 then ((nat_Bits.f k y190).bind fun t293 => (if t293 = 64 then ((nat_Cmp.f k y190 ([] : List Int)).bind fun t294 => (if t294 = 1 then ((nat_Mul.f k y190 y190).bind fun t295 => ((quipuref01_Same.f k t295 (([1, 18446744073709551614] : List Int))).bind fun t301 => (if t301 = true then ((nat_Of.f k 5).bind fun t302 => ((quipuref01_Same.f k t302 (([5] : List Int))).bind fun t308 => (if t308 = true then (some true) else (none)))) else (none)))) else (none))) else (none))) else (none))) else (none)) else (none))) else (none)) else (none)) else (none))) else (none)) else (none)) else (none))) else (none))) = some r := by first | (rw [hy271]; with_reducible exact H) | (have H2_ := (Option.bind_some _ _).symm.trans H; rw [hy271]; with_reducible exact H2_) | (have H2_ := (Option.bind_some _ _).symm.trans H; with_reducible exact H2_) | with_reducible exact H | (rw [hy271]; exact H) | exact H
          have Ny271 := Aside0.mk hy271
          clear hy271
          replace H := Option.bind_eq_some_iff.mp H
          obtain ⟨t274, A150, H⟩ := H
          (try dsimp only at H)
          have A15 := Aside0.mk A150
          clear A150
          by_cases c16 : t274 = true
          · subst c16
            have H1 : ((quipuref01_Same.f k t222 (([1] : List Int))).bind fun t278 => (if t278 = true then (if t225 = 0 then (if t238 = 11 then ((quipuref01_Same.f k t242 (([9223372036854775808, 1] : List Int))).bind fun t282 => (if t282 = true then (if t245 = 0 then (if t252 = 12 then ((quipuref01_Same.f k t256 (([9223372036854775808] : List Int))).bind fun t286 => (if t286 = true then (if t259 = 0 then ((nat_Norm.f k (([0] : List Int))).bind fun t290 => (if (t290.length : Int) = 0 then ((nat_Bits.f k y190).bind fun t293 => (if t293 = 64 then ((nat_Cmp.f k y190 ([] : List Int)).bind fun t294 => (if t294 = 1 then ((nat_Mul.f k y190 y190).bind fun t295 => ((quipuref01_Same.f k t295 (([1, 18446744073709551614] : List Int))).bind fun t301 => (if t301 = true then ((nat_Of.f k 5).bind fun t302 => ((quipuref01_Same.f k t302 (([5] : List Int))).bind fun t308 => (if t308 = true then (some true) else (none)))) else (none)))) else (none))) else (none))) else (none))) else (none)) else (none))) else (none)) else (none)) else (none))) else (none)) else (none)) else (none))) = some r := by rw [if_pos rfl] at H; exact H
            clear H
            have H := H1
            clear H1
            obtain ⟨y275, hy275⟩ : ∃ y_ : List Int, y_ = (([1] : List Int)) := ⟨_, rfl⟩
            replace H : ((quipuref01_Same.f k t222 y275).bind fun t278 => (if t278 = true then (if t225 = 0 then (if t238 = 11 then ((quipuref01_Same.f k t242 (([9223372036854775808, 1] : List Int))).bind fun t282 => (if t282 = true then (if t245 = 0 then (if t252 = 12 then ((quipuref01_Same.f k t256 (([9223372036854775808] : List Int))).bind fun t286 => (if t286 = true then (if t259 = 0 then ((nat_Norm.f k (([0] : List Int))).bind fun t290 => (if (t290.length : Int) = 0 then ((nat_Bits.f k y190).bind fun t293 => (if t293 = 64 then ((nat_Cmp.f k y190 ([] : List Int)).bind fun t294 => (if t294 = 1 then ((nat_Mul.f k y190 y190).bind fun t295 => ((quipuref01_Same.f k t295 (([1, 18446744073709551614] : List Int))).bind fun t301 => (if t301 = true then ((nat_Of.f k 5).bind fun t302 => ((quipuref01_Same.f k t302 (([5] : List Int))).bind fun t308 => (if t308 = true then (some true) else (none)))) else (none)))) else (none))) else (none))) else (none))) else (none)) else (none))) else (none)) else (none)) else (none))) else (none)) else (none)) else (none))) = some r := by first | (rw [hy275]; with_reducible exact H) | (have H2_ := (Option.bind_some _ _).symm.trans H; rw [hy275]; with_reducible exact H2_) | (have H2_ := (Option.bind_some _ _).symm.trans H; with_reducible exact H2_) | with_reducible exact H | (rw [hy275]; exact H) | exact H
            have Ny275 := Aside0.mk hy275
            clear hy275
            replace H := Option.bind_eq_some_iff.mp H
            obtain ⟨t278, A170, H⟩ := H
            (try dsimp only at H)
            have A17 := Aside0.mk A170
            clear A170
            by_cases c18 : t278 = true
            · subst c18
              have H1 : (if t225 = 0 then (if t238 = 11 then ((quipuref01_Same.f k t242 (([9223372036854775808, 1] : List Int))).bind fun t282 => (if t282 = true then (if t245 = 0 then (if t252 = 12 then ((quipuref01_Same.f k t256 (([9223372036854775808] : List Int))).bind fun t286 => (if t286 = true then (if t259 = 0 then ((nat_Norm.f k (([0] : List Int))).bind fun t290 => (if (t290.length : Int) = 0 then ((nat_Bits.f k y190).bind fun t293 => (if t293 = 64 then ((nat_Cmp.f k y190 ([] : List Int)).bind fun t294 => (if t294 = 1 then ((nat_Mul.f k y190 y190).bind fun t295 => ((quipuref01_Same.f k t295 (([1, 18446744073709551614] : List Int))).bind fun t301 => (if t301 = true then ((nat_Of.f k 5).bind fun t302 => ((quipuref01_Same.f k t302 (([5] : List Int))).bind fun t308 => (if t308 = true then (some true) else (none)))) else (none)))) else (none))) else (none))) else (none))) else (none)) else (none))) else (none)) else (none)) else (none))) else (none)) else (none)) = some r := by rw [if_pos rfl] at H; exact H
              clear H
              have H := H1
              clear H1
              by_cases c19 : t225 = 0
              · rw [if_pos c19] at H
                have c19b0 : (t225 == 0) = true := beq_iff_eq.mpr c19
                have c19b1 : (t225 != 0) = false := bne_eq_false_iff_eq.mpr c19
                clear c19
                by_cases c20 : t238 = 11
                · rw [if_pos c20] at H
                  have c20b0 : (t238 == 11) = true := beq_iff_eq.mpr c20
                  have c20b1 : (t238 != 11) = false := bne_eq_false_iff_eq.mpr c20
                  clear c20
                  obtain ⟨y279, hy279⟩ : ∃ y_ : List Int, y_ = (([9223372036854775808, 1] : List Int)) := ⟨_, rfl⟩
                  replace H : ((quipuref01_Same.f k t242 y279).bind fun t282 => (if t282 = true then (if t245 = 0 then (if t252 = 12 then ((quipuref01_Same.f k t256 (([9223372036854775808] : List Int))).bind fun t286 => (if t286 = true then (if t259 = 0 then ((nat_Norm.f k (([0] : List Int))).bind fun t290 => (if (t290.length : Int) = 0 then ((nat_Bits.f k y190).bind fun t293 => (if t293 = 64 then ((nat_Cmp.f k y190 ([] : List Int)).bind fun t294 => (if t294 = 1 then ((nat_Mul.f k y190 y190).bind fun t295 => ((quipuref01_Same.f k t295 (([1, 18446744073709551614] : List Int))).bind fun t301 => (if t301 = true then ((nat_Of.f k 5).bind fun t302 => ((quipuref01_Same.f k t302 (([5] : List Int))).bind fun t308 => (if t308 = true then (some true) else (none)))) else (none)))) else (none))) else (none))) else (none))) else (none)) else (none))) else (none)) else (none)) else (none))) = some r := by first | (rw [hy279]; with_reducible exact H) | (have H2_ := (Option.bind_some _ _).symm.trans H; rw [hy279]; with_reducible exact H2_) | (have H2_ := (Option.bind_some _ _).symm.trans H; with_reducible exact H2_) | with_reducible exact H | (rw [hy279]; exact H) | exact H
                  have Ny279 := Aside0.mk hy279
                  clear hy279
                  replace H := Option.bind_eq_some_iff.mp H
                  obtain ⟨t282, A210, H⟩ := H
                  (try dsimp only at H)
                  have A21 := Aside0.mk A210
                  clear A210
                  by_cases c22 : t282 = true
                  · subst c22
                    have H1 : (if t245 = 0 then (if t252 = 12 then ((quipuref01_Same.f k t256 (([9223372036854775808] : List Int))).bind fun t286 => (if t286 = true then (if t259 = 0 then ((nat_Norm.f k (([0] : List Int))).bind fun t290 => (if (t290.length : Int) = 0 then ((nat_Bits.f k y190).bind fun t293 => (if t293 = 64 then ((nat_Cmp.f k y190 ([] : List Int)).bind fun t294 => (if t294 = 1 then ((nat_Mul.f k y190 y190).bind fun t295 => ((quipuref01_Same.f k t295 (([1, 18446744073709551614] : List Int))).bind fun t301 => (if t301 = true then ((nat_Of.f k 5).bind fun t302 => ((quipuref01_Same.f k t302 (([5] : List Int))).bind fun t308 => (if t308 = true then (some true) else (none)))) else (none)))) else (none))) else (none))) else (none))) else (none)) else (none))) else (none)) else (none)) = some r := by rw [if_pos rfl] at H; exact H
                    clear H
                    have H := H1
                    clear H1
                    by_cases c23 : t245 = 0
                    · rw [if_pos c23] at H
                      have c23b0 : (t245 == 0) = true := beq_iff_eq.mpr c23
                      have c23b1 : (t245 != 0) = false := bne_eq_false_iff_eq.mpr c23
                      clear c23
                      by_cases c24 : t252 = 12
                      · rw [if_pos c24] at H
                        have c24b0 : (t252 == 12) = true := beq_iff_eq.mpr c24
                        have c24b1 : (t252 != 12) = false := bne_eq_false_iff_eq.mpr c24
                        clear c24
                        obtain ⟨y283, hy283⟩ : ∃ y_ : List Int, y_ = (([9223372036854775808] : List Int)) := ⟨_, rfl⟩
                        replace H : ((quipuref01_Same.f k t256 y283).bind fun t286 => (if t286 = true then (if t259 = 0 then ((nat_Norm.f k (([0] : List Int))).bind fun t290 => (if (t290.length : Int) = 0 then ((nat_Bits.f k y190).bind fun t293 => (if t293 = 64 then ((nat_Cmp.f k y190 ([] : List Int)).bind fun t294 => (if t294 = 1 then ((nat_Mul.f k y190 y190).bind fun t295 => ((quipuref01_Same.f k t295 (([1, 18446744073709551614] : List Int))).bind fun t301 => (if t301 = true then ((nat_Of.f k 5).bind fun t302 => ((quipuref01_Same.f k t302 (([5] : List Int))).bind fun t308 => (if t308 = true then (some true) else (none)))) else (none)))) else (none))) else (none))) else (none))) else (none)) else (none))) = some r := by first | (rw [hy283]; with_reducible exact H) | (have H2_ := (Option.bind_some _ _).symm.trans H; rw [hy283]; with_reducible exact H2_) | (have H2_ := (Option.bind_some _ _).symm.trans H; with_reducible exact H2_) | with_reducible exact H | (rw [hy283]; exact H) | exact H
                        have Ny283 := Aside0.mk hy283
                        clear hy283
                        replace H := Option.bind_eq_some_iff.mp H
                        obtain ⟨t286, A250, H⟩ := H
                        (try dsimp only at H)
                        have A25 := Aside0.mk A250
                        clear A250
                        by_cases c26 : t286 = true
                        · subst c26
                          have H1 : (if t259 = 0 then ((nat_Norm.f k (([0] : List Int))).bind fun t290 => (if (t290.length : Int) = 0 then ((nat_Bits.f k y190).bind fun t293 => (if t293 = 64 then ((nat_Cmp.f k y190 ([] : List Int)).bind fun t294 => (if t294 = 1 then ((nat_Mul.f k y190 y190).bind fun t295 => ((quipuref01_Same.f k t295 (([1, 18446744073709551614] : List Int))).bind fun t301 => (if t301 = true then ((nat_Of.f k 5).bind fun t302 => ((quipuref01_Same.f k t302 (([5] : List Int))).bind fun t308 => (if t308 = true then (some true) else (none)))) else (none)))) else (none))) else (none))) else (none))) else (none)) = some r := by rw [if_pos rfl] at H; exact H
                          clear H
                          have H := H1
                          clear H1
                          by_cases c27 : t259 = 0
                          · rw [if_pos c27] at H
                            have c27b0 : (t259 == 0) = true := beq_iff_eq.mpr c27
                            have c27b1 : (t259 != 0) = false := bne_eq_false_iff_eq.mpr c27
                            clear c27
                            obtain ⟨y287, hy287⟩ : ∃ y_ : List Int, y_ = (([0] : List Int)) := ⟨_, rfl⟩
                            replace H : ((nat_Norm.f k y287).bind fun t290 => (if (t290.length : Int) = 0 then ((nat_Bits.f k y190).bind fun t293 => (if t293 = 64 then ((nat_Cmp.f k y190 ([] : List Int)).bind fun t294 => (if t294 = 1 then ((nat_Mul.f k y190 y190).bind fun t295 => ((quipuref01_Same.f k t295 (([1, 18446744073709551614] : List Int))).bind fun t301 => (if t301 = true then ((nat_Of.f k 5).bind fun t302 => ((quipuref01_Same.f k t302 (([5] : List Int))).bind fun t308 => (if t308 = true then (some true) else (none)))) else (none)))) else (none))) else (none))) else (none))) = some r := by first | (rw [hy287]; with_reducible exact H) | (have H2_ := (Option.bind_some _ _).symm.trans H; rw [hy287]; with_reducible exact H2_) | (have H2_ := (Option.bind_some _ _).symm.trans H; with_reducible exact H2_) | with_reducible exact H | (rw [hy287]; exact H) | exact H
                            have Ny287 := Aside0.mk hy287
                            clear hy287
                            replace H := Option.bind_eq_some_iff.mp H
                            obtain ⟨t290, A280, H⟩ := H
                            (try dsimp only at H)
                            have A28 := Aside0.mk A280
                            clear A280
                            by_cases c29 : (t290.length : Int) = 0
                            · rw [if_pos c29] at H
                              have c29b0 : ((t290.length : Int) == 0) = true := beq_iff_eq.mpr c29
                              have c29b1 : ((t290.length : Int) != 0) = false := bne_eq_false_iff_eq.mpr c29
                              clear c29
                              replace H := Option.bind_eq_some_iff.mp H
                              obtain ⟨t293, A300, H⟩ := H
                              (try dsimp only at H)
                              have A30 := Aside0.mk A300
                              clear A300
                              by_cases c31 : t293 = 64
                              · rw [if_pos c31] at H
                                have c31b0 : (t293 == 64) = true := beq_iff_eq.mpr c31
                                have c31b1 : (t293 != 64) = false := bne_eq_false_iff_eq.mpr c31
                                clear c31
                                replace H := Option.bind_eq_some_iff.mp H
                                obtain ⟨t294, A320, H⟩ := H
                                (try dsimp only at H)
                                have A32 := Aside0.mk A320
                                clear A320
                                by_cases c33 : t294 = 1
                                · rw [if_pos c33] at H
                                  have c33b0 : (t294 == 1) = true := beq_iff_eq.mpr c33
                                  have c33b1 : (t294 != 1) = false := bne_eq_false_iff_eq.mpr c33
                                  clear c33
                                  replace H := Option.bind_eq_some_iff.mp H
                                  obtain ⟨t295, A340, H⟩ := H
                                  (try dsimp only at H)
                                  have A34 := Aside0.mk A340
                                  clear A340
                                  obtain ⟨y298, hy298⟩ : ∃ y_ : List Int, y_ = (([1, 18446744073709551614] : List Int)) := ⟨_, rfl⟩
                                  replace H : ((quipuref01_Same.f k t295 y298).bind fun t301 => (if t301 = true then ((nat_Of.f k 5).bind fun t302 => ((quipuref01_Same.f k t302 (([5] : List Int))).bind fun t308 => (if t308 = true then (some true) else (none)))) else (none))) = some r := by first | (rw [hy298]; with_reducible exact H) | (have H2_ := (Option.bind_some _ _).symm.trans H; rw [hy298]; with_reducible exact H2_) | (have H2_ := (Option.bind_some _ _).symm.trans H; with_reducible exact H2_) | with_reducible exact H | (rw [hy298]; exact H) | exact H
                                  have Ny298 := Aside0.mk hy298
                                  clear hy298
                                  replace H := Option.bind_eq_some_iff.mp H
                                  obtain ⟨t301, A350, H⟩ := H
                                  (try dsimp only at H)
                                  have A35 := Aside0.mk A350
                                  clear A350
                                  by_cases c36 : t301 = true
                                  · subst c36
                                    have H1 : ((nat_Of.f k 5).bind fun t302 => ((quipuref01_Same.f k t302 (([5] : List Int))).bind fun t308 => (if t308 = true then (some true) else (none)))) = some r := by rw [if_pos rfl] at H; exact H
                                    clear H
                                    have H := H1
                                    clear H1
                                    replace H := Option.bind_eq_some_iff.mp H
                                    obtain ⟨t302, A370, H⟩ := H
                                    (try dsimp only at H)
                                    have A37 := Aside0.mk A370
                                    clear A370
                                    obtain ⟨y305, hy305⟩ : ∃ y_ : List Int, y_ = (([5] : List Int)) := ⟨_, rfl⟩
                                    replace H : ((quipuref01_Same.f k t302 y305).bind fun t308 => (if t308 = true then (some true) else (none))) = some r := by first | (rw [hy305]; with_reducible exact H) | (have H2_ := (Option.bind_some _ _).symm.trans H; rw [hy305]; with_reducible exact H2_) | (have H2_ := (Option.bind_some _ _).symm.trans H; with_reducible exact H2_) | with_reducible exact H | (rw [hy305]; exact H) | exact H
                                    have Ny305 := Aside0.mk hy305
                                    clear hy305
                                    replace H := Option.bind_eq_some_iff.mp H
                                    obtain ⟨t308, A380, H⟩ := H
                                    (try dsimp only at H)
                                    have A38 := Aside0.mk A380
                                    clear A380
                                    by_cases c39 : t308 = true
                                    · subst c39
                                      have H1 : (some true) = some r := by rw [if_pos rfl] at H; exact H
                                      clear H
                                      have H := H1
                                      clear H1
                                      obtain rfl := Option.some.inj H
                                      go_enter Try.func14, Try.ntmps14
                                      dsimp only [List.append]
                                      go_wp2_with (first | ((with_reducible refine gate_dst (N := 18) rfl ?_); (try (refine gate_guard (by rfl) ?_; dsimp only)); refine Kd.R_lit (Kd.int .u64) _ 46 ?hg (N := 18) ?hd (xs := ([18446744073709551615] : List Int)) (inner := [.int .u64 18446744073709551615]) (ok := fun _ => True) (okp := fun _ => True) ?hr ?hp (fun _ hk => hk) trivial (Below.refl _ _) (Nat.le_refl _) (by simp) ?_; (case hd => rfl); (case hg => rfl); (case hr => first | (go_simp; done) | (go_simp; rfl)); (case hp => exact (Reps.one (show Kd.M (Kd.int .u64) _ _ _ 18446744073709551615 [.int .u64 18446744073709551615] from rfl) (Reps.none _ _))); intro v191 w40 ho41 hb hg_ hnew_; clear hg_ hnew_; (first | rw [← Ny190.out] at ho41 | (simp only [Int.reduceToNat] at ho41; rw [← Ny190.out] at ho41)); have HO192 := Aside0.mk ho41; clear ho41; have n_ := Aside0.mk (below_step (by repeat (first | exact HB.out | apply pw_below_drewN | apply below_alloc | apply below_drew1)) hb); clear HB; have HB := n_; clear n_) | ((with_reducible refine gate_dst (N := 20) rfl ?_); (try (refine gate_guard (by rfl) ?_; dsimp only)); refine Kd.R_lit (Kd.int .u64) _ 46 ?hg (N := 20) ?hd (xs := ([0, 1] : List Int)) (inner := [.int .u64 0, .int .u64 1]) (ok := fun _ => True) (okp := fun _ => True) ?hr ?hp (fun _ hk => hk) trivial (Below.refl _ _) (Nat.le_refl _) (by simp) ?_; (case hd => rfl); (case hg => rfl); (case hr => first | (go_simp; done) | (go_simp; rfl)); (case hp => exact (Reps.one (show Kd.M (Kd.int .u64) _ _ _ 0 [.int .u64 0] from rfl) (Reps.one (show Kd.M (Kd.int .u64) _ _ _ 1 [.int .u64 1] from rfl) (Reps.none _ _)))); intro v194 w42 ho43 hb hg_ hnew_; clear hg_ hnew_; (first | rw [← Ny193.out] at ho43 | (simp only [Int.reduceToNat] at ho43; rw [← Ny193.out] at ho43)); have HO195 := Aside0.mk ho43; clear ho43; have n_ := Aside0.mk (below_step (by repeat (first | exact HB.out | apply pw_below_drewN | apply below_alloc | apply below_drew1)) hb); clear HB; have HB := n_; clear n_) | ((with_reducible refine gate_dst (N := 21) rfl ?_); (try (refine gate_guard (by rfl) ?_; dsimp only)); refine Kd.R_lit (Kd.int .u64) _ 46 ?hg (N := 21) ?hd (xs := ([1] : List Int)) (inner := [.int .u64 1]) (ok := fun _ => True) (okp := fun _ => True) ?hr ?hp (fun _ hk => hk) trivial (Below.refl _ _) (Nat.le_refl _) (by simp) ?_; (case hd => rfl); (case hg => rfl); (case hr => first | (go_simp; done) | (go_simp; rfl)); (case hp => exact (Reps.one (show Kd.M (Kd.int .u64) _ _ _ 1 [.int .u64 1] from rfl) (Reps.none _ _))); intro v197 w44 ho45 hb hg_ hnew_; clear hg_ hnew_; (first | rw [← Ny196.out] at ho45 | (simp only [Int.reduceToNat] at ho45; rw [← Ny196.out] at ho45)); have HO198 := Aside0.mk ho45; clear ho45; have n_ := Aside0.mk (below_step (by repeat (first | exact HB.out | apply pw_below_drewN | apply below_alloc | apply below_drew1)) hb); clear HB; have HB := n_; clear n_; obtain ⟨Ao46, co46, eo46⟩ := Kd.R_slice HO195.out; subst eo46; obtain ⟨Ao47, co47, eo47⟩ := Kd.R_slice HO198.out; subst eo47) | ((with_reducible refine gate_callee (f := 13) rfl ?_); refine goesL_ (some 22) rfl rfl Try.func13 (by kernel_rfl) rfl #[.slice Ao46 y193.length co46, .slice Ao47 y196.length co47] rfl (by (try simp only [List.map_toArray, List.map_cons, List.map_nil]); first | done | rfl | (simp only [List.length_drop, List.length_take]; rfl)) ?_; (with_reducible refine (nat_Sub.calls _ _ y193 _ _ y196 t199 t202 _ ?side1 ?side2 ?side3 ?side4 A1.out).mono ?_); (case side1 => repeat (first | exact (Kd.R_reads' HO195.out).2.2 | (with_reducible refine Kd.C_drewN ?_ _) | (with_reducible refine Kd.C_below ?_ (by assumption)))); (case side2 => exact (Kd.R_reads' HO195.out).2.1); (case side3 => repeat (first | exact (Kd.R_reads' HO198.out).2.2 | (with_reducible refine Kd.C_drewN ?_ _) | (with_reducible refine Kd.C_below ?_ (by assumption)))); (case side4 => exact (Kd.R_reads' HO198.out).2.1); rintro e w48 ⟨v200, rfl, ho0, hb⟩; refine ⟨_, rfl, ?_⟩; have HO201 := Aside0.mk ho0; clear ho0; have n_ := Aside0.mk (below_step (by repeat (first | exact HB.out | apply pw_below_drewN | apply below_alloc | apply below_drew1)) hb); clear HB; have HB := n_; clear n_) | ((with_reducible refine gate_dst (N := 26) rfl ?_); (try (refine gate_guard (by rfl) ?_; dsimp only)); refine Kd.R_lit (Kd.int .u64) _ 46 ?hg (N := 26) ?hd (xs := ([1] : List Int)) (inner := [.int .u64 1]) (ok := fun _ => True) (okp := fun _ => True) ?hr ?hp (fun _ hk => hk) trivial (Below.refl _ _) (Nat.le_refl _) (by simp) ?_; (case hd => rfl); (case hg => rfl); (case hr => first | (go_simp; done) | (go_simp; rfl)); (case hp => exact (Reps.one (show Kd.M (Kd.int .u64) _ _ _ 1 [.int .u64 1] from rfl) (Reps.none _ _))); intro v204 w49 ho50 hb hg_ hnew_; clear hg_ hnew_; (first | rw [← Ny203.out] at ho50 | (simp only [Int.reduceToNat] at ho50; rw [← Ny203.out] at ho50)); have HO205 := Aside0.mk ho50; clear ho50; have n_ := Aside0.mk (below_step (by repeat (first | exact HB.out | apply pw_below_drewN | apply below_alloc | apply below_drew1)) hb); clear HB; have HB := n_; clear n_) | ((with_reducible refine gate_dst (N := 27) rfl ?_); (try (refine gate_guard (by rfl) ?_; dsimp only)); refine Kd.R_lit (Kd.int .u64) _ 46 ?hg (N := 27) ?hd (xs := ([2] : List Int)) (inner := [.int .u64 2]) (ok := fun _ => True) (okp := fun _ => True) ?hr ?hp (fun _ hk => hk) trivial (Below.refl _ _) (Nat.le_refl _) (by simp) ?_; (case hd => rfl); (case hg => rfl); (case hr => first | (go_simp; done) | (go_simp; rfl)); (case hp => exact (Reps.one (show Kd.M (Kd.int .u64) _ _ _ 2 [.int .u64 2] from rfl) (Reps.none _ _))); intro v207 w51 ho52 hb hg_ hnew_; clear hg_ hnew_; (first | rw [← Ny206.out] at ho52 | (simp only [Int.reduceToNat] at ho52; rw [← Ny206.out] at ho52)); have HO208 := Aside0.mk ho52; clear ho52; have n_ := Aside0.mk (below_step (by repeat (first | exact HB.out | apply pw_below_drewN | apply below_alloc | apply below_drew1)) hb); clear HB; have HB := n_; clear n_; obtain ⟨Ao53, co53, eo53⟩ := Kd.R_slice HO205.out; subst eo53; obtain ⟨Ao54, co54, eo54⟩ := Kd.R_slice HO208.out; subst eo54) | ((with_reducible refine gate_callee (f := 13) rfl ?_); refine goesL_ (some 28) rfl rfl Try.func13 (by kernel_rfl) rfl #[.slice Ao53 y203.length co53, .slice Ao54 y206.length co54] rfl (by (try simp only [List.map_toArray, List.map_cons, List.map_nil]); first | done | rfl | (simp only [List.length_drop, List.length_take]; rfl)) ?_; (with_reducible refine (nat_Sub.calls _ _ y203 _ _ y206 t209 t212 _ ?side1 ?side2 ?side3 ?side4 A2.out).mono ?_); (case side1 => repeat (first | exact (Kd.R_reads' HO205.out).2.2 | (with_reducible refine Kd.C_drewN ?_ _) | (with_reducible refine Kd.C_below ?_ (by assumption)))); (case side2 => exact (Kd.R_reads' HO205.out).2.1); (case side3 => repeat (first | exact (Kd.R_reads' HO208.out).2.2 | (with_reducible refine Kd.C_drewN ?_ _) | (with_reducible refine Kd.C_below ?_ (by assumption)))); (case side4 => exact (Kd.R_reads' HO208.out).2.1); rintro e w55 ⟨v210, rfl, ho0, hb⟩; refine ⟨_, rfl, ?_⟩; have HO211 := Aside0.mk ho0; clear ho0; have n_ := Aside0.mk (below_step (by repeat (first | exact HB.out | apply pw_below_drewN | apply below_alloc | apply below_drew1)) hb); clear HB; have HB := n_; clear n_) | ((with_reducible refine gate_dst (N := 32) rfl ?_); (try (refine gate_guard (by rfl) ?_; dsimp only)); refine Kd.R_lit (Kd.int .u64) _ 46 ?hg (N := 32) ?hd (xs := ([7] : List Int)) (inner := [.int .u64 7]) (ok := fun _ => True) (okp := fun _ => True) ?hr ?hp (fun _ hk => hk) trivial (Below.refl _ _) (Nat.le_refl _) (by simp) ?_; (case hd => rfl); (case hg => rfl); (case hr => first | (go_simp; done) | (go_simp; rfl)); (case hp => exact (Reps.one (show Kd.M (Kd.int .u64) _ _ _ 7 [.int .u64 7] from rfl) (Reps.none _ _))); intro v214 w56 ho57 hb hg_ hnew_; clear hg_ hnew_; (first | rw [← Ny213.out] at ho57 | (simp only [Int.reduceToNat] at ho57; rw [← Ny213.out] at ho57)); have HO215 := Aside0.mk ho57; clear ho57; have n_ := Aside0.mk (below_step (by repeat (first | exact HB.out | apply pw_below_drewN | apply below_alloc | apply below_drew1)) hb); clear HB; have HB := n_; clear n_) | ((with_reducible refine gate_dst (N := 33) rfl ?_); (try (refine gate_guard (by rfl) ?_; dsimp only)); refine Kd.R_lit (Kd.int .u64) _ 46 ?hg (N := 33) ?hd (xs := ([2] : List Int)) (inner := [.int .u64 2]) (ok := fun _ => True) (okp := fun _ => True) ?hr ?hp (fun _ hk => hk) trivial (Below.refl _ _) (Nat.le_refl _) (by simp) ?_; (case hd => rfl); (case hg => rfl); (case hr => first | (go_simp; done) | (go_simp; rfl)); (case hp => exact (Reps.one (show Kd.M (Kd.int .u64) _ _ _ 2 [.int .u64 2] from rfl) (Reps.none _ _))); intro v217 w58 ho59 hb hg_ hnew_; clear hg_ hnew_; (first | rw [← Ny216.out] at ho59 | (simp only [Int.reduceToNat] at ho59; rw [← Ny216.out] at ho59)); have HO218 := Aside0.mk ho59; clear ho59; have n_ := Aside0.mk (below_step (by repeat (first | exact HB.out | apply pw_below_drewN | apply below_alloc | apply below_drew1)) hb); clear HB; have HB := n_; clear n_; obtain ⟨Ao60, co60, eo60⟩ := Kd.R_slice HO215.out; subst eo60; obtain ⟨Ao61, co61, eo61⟩ := Kd.R_slice HO218.out; subst eo61) | ((with_reducible refine gate_callee (f := 25) rfl ?_); refine goesL_ (some 34) rfl rfl Try.func25 (by kernel_rfl) rfl #[.slice Ao60 y213.length co60, .slice Ao61 y216.length co61] rfl (by (try simp only [List.map_toArray, List.map_cons, List.map_nil]); first | done | rfl | (simp only [List.length_drop, List.length_take]; rfl)) ?_; (with_reducible refine (nat_DivMod.calls _ _ y213 _ _ y216 t219 t222 t225 _ ?side1 ?side2 ?side3 ?side4 A3.out).mono ?_); (case side1 => repeat (first | exact (Kd.R_reads' HO215.out).2.2 | (with_reducible refine Kd.C_drewN ?_ _) | (with_reducible refine Kd.C_below ?_ (by assumption)))); (case side2 => exact (Kd.R_reads' HO215.out).2.1); (case side3 => repeat (first | exact (Kd.R_reads' HO218.out).2.2 | (with_reducible refine Kd.C_drewN ?_ _) | (with_reducible refine Kd.C_below ?_ (by assumption)))); (case side4 => exact (Kd.R_reads' HO218.out).2.1); rintro e w62 ⟨v220, v223, rfl, ho0, ho1, hb⟩; refine ⟨_, rfl, ?_⟩; have HO221 := Aside0.mk ho0; have HO224 := Aside0.mk ho1; clear ho0 ho1; have n_ := Aside0.mk (below_step (by repeat (first | exact HB.out | apply pw_below_drewN | apply below_alloc | apply below_drew1)) hb); clear HB; have HB := n_; clear n_) | ((with_reducible refine gate_dst (N := 39) rfl ?_); (try (refine gate_guard (by rfl) ?_; dsimp only)); refine Kd.R_lit (Kd.int .u64) _ 46 ?hg (N := 39) ?hd (xs := ([1] : List Int)) (inner := [.int .u64 1]) (ok := fun _ => True) (okp := fun _ => True) ?hr ?hp (fun _ hk => hk) trivial (Below.refl _ _) (Nat.le_refl _) (by simp) ?_; (case hd => rfl); (case hg => rfl); (case hr => first | (go_simp; done) | (go_simp; rfl)); (case hp => exact (Reps.one (show Kd.M (Kd.int .u64) _ _ _ 1 [.int .u64 1] from rfl) (Reps.none _ _))); intro v227 w63 ho64 hb hg_ hnew_; clear hg_ hnew_; (first | rw [← Ny226.out] at ho64 | (simp only [Int.reduceToNat] at ho64; rw [← Ny226.out] at ho64)); have HO228 := Aside0.mk ho64; clear ho64; have n_ := Aside0.mk (below_step (by repeat (first | exact HB.out | apply pw_below_drewN | apply below_alloc | apply below_drew1)) hb); clear HB; have HB := n_; clear n_) | ((with_reducible refine gate_dst (N := 40) rfl ?_); (try (refine gate_guard (by rfl) ?_; dsimp only)); refine Kd.R_lit (Kd.int .u64) _ 46 ?hg (N := 40) ?hd (xs := ([0, 0] : List Int)) (inner := [.int .u64 0, .int .u64 0]) (ok := fun _ => True) (okp := fun _ => True) ?hr ?hp (fun _ hk => hk) trivial (Below.refl _ _) (Nat.le_refl _) (by simp) ?_; (case hd => rfl); (case hg => rfl); (case hr => first | (go_simp; done) | (go_simp; rfl)); (case hp => exact (Reps.one (show Kd.M (Kd.int .u64) _ _ _ 0 [.int .u64 0] from rfl) (Reps.one (show Kd.M (Kd.int .u64) _ _ _ 0 [.int .u64 0] from rfl) (Reps.none _ _)))); intro v230 w65 ho66 hb hg_ hnew_; clear hg_ hnew_; (first | rw [← Ny229.out] at ho66 | (simp only [Int.reduceToNat] at ho66; rw [← Ny229.out] at ho66)); have HO231 := Aside0.mk ho66; clear ho66; have n_ := Aside0.mk (below_step (by repeat (first | exact HB.out | apply pw_below_drewN | apply below_alloc | apply below_drew1)) hb); clear HB; have HB := n_; clear n_; obtain ⟨Ao67, co67, eo67⟩ := Kd.R_slice HO228.out; subst eo67; obtain ⟨Ao68, co68, eo68⟩ := Kd.R_slice HO231.out; subst eo68) | ((with_reducible refine gate_callee (f := 25) rfl ?_); refine goesL_ (some 41) rfl rfl Try.func25 (by kernel_rfl) rfl #[.slice Ao67 y226.length co67, .slice Ao68 y229.length co68] rfl (by (try simp only [List.map_toArray, List.map_cons, List.map_nil]); first | done | rfl | (simp only [List.length_drop, List.length_take]; rfl)) ?_; (with_reducible refine (nat_DivMod.calls _ _ y226 _ _ y229 t232 t235 t238 _ ?side1 ?side2 ?side3 ?side4 A4.out).mono ?_); (case side1 => repeat (first | exact (Kd.R_reads' HO228.out).2.2 | (with_reducible refine Kd.C_drewN ?_ _) | (with_reducible refine Kd.C_below ?_ (by assumption)))); (case side2 => exact (Kd.R_reads' HO228.out).2.1); (case side3 => repeat (first | exact (Kd.R_reads' HO231.out).2.2 | (with_reducible refine Kd.C_drewN ?_ _) | (with_reducible refine Kd.C_below ?_ (by assumption)))); (case side4 => exact (Kd.R_reads' HO231.out).2.1); rintro e w69 ⟨v233, v236, rfl, ho0, ho1, hb⟩; refine ⟨_, rfl, ?_⟩; have HO234 := Aside0.mk ho0; have HO237 := Aside0.mk ho1; clear ho0 ho1; have n_ := Aside0.mk (below_step (by repeat (first | exact HB.out | apply pw_below_drewN | apply below_alloc | apply below_drew1)) hb); clear HB; have HB := n_; clear n_) | ((with_reducible refine gate_dst (N := 46) rfl ?_); (try (refine gate_guard (by rfl) ?_; dsimp only)); refine Kd.R_lit (Kd.int .u64) _ 46 ?hg (N := 46) ?hd (xs := ([3] : List Int)) (inner := [.int .u64 3]) (ok := fun _ => True) (okp := fun _ => True) ?hr ?hp (fun _ hk => hk) trivial (Below.refl _ _) (Nat.le_refl _) (by simp) ?_; (case hd => rfl); (case hg => rfl); (case hr => first | (go_simp; done) | (go_simp; rfl)); (case hp => exact (Reps.one (show Kd.M (Kd.int .u64) _ _ _ 3 [.int .u64 3] from rfl) (Reps.none _ _))); intro v240 w70 ho71 hb hg_ hnew_; clear hg_ hnew_; (first | rw [← Ny239.out] at ho71 | (simp only [Int.reduceToNat] at ho71; rw [← Ny239.out] at ho71)); have HO241 := Aside0.mk ho71; clear ho71; have n_ := Aside0.mk (below_step (by repeat (first | exact HB.out | apply pw_below_drewN | apply below_alloc | apply below_drew1)) hb); clear HB; have HB := n_; clear n_; obtain ⟨Ao72, co72, eo72⟩ := Kd.R_slice HO241.out; subst eo72) | ((with_reducible refine gate_callee (f := 27) rfl ?_); refine goesL_ (some 47) rfl rfl Try.func27 (by kernel_rfl) rfl #[.slice Ao72 y239.length co72, .int .i64 63] rfl (by (try simp only [List.map_toArray, List.map_cons, List.map_nil]); first | done | rfl | (simp only [List.length_drop, List.length_take]; rfl)) ?_; (with_reducible refine (nat_Shl.calls _ _ y239 63 t242 t245 _ ?side1 ?side2 A5.out).mono ?_); (case side1 => repeat (first | exact (Kd.R_reads' HO241.out).2.2 | (with_reducible refine Kd.C_drewN ?_ _) | (with_reducible refine Kd.C_below ?_ (by assumption)))); (case side2 => exact (Kd.R_reads' HO241.out).2.1); rintro e w73 ⟨v243, rfl, ho0, hb⟩; refine ⟨_, rfl, ?_⟩; have HO244 := Aside0.mk ho0; clear ho0; have n_ := Aside0.mk (below_step (by repeat (first | exact HB.out | apply pw_below_drewN | apply below_alloc | apply below_drew1)) hb); clear HB; have HB := n_; clear n_) | ((with_reducible refine gate_dst (N := 51) rfl ?_); (try (refine gate_guard (by rfl) ?_; dsimp only)); refine Kd.R_lit (Kd.int .u64) _ 46 ?hg (N := 51) ?hd (xs := ([1] : List Int)) (inner := [.int .u64 1]) (ok := fun _ => True) (okp := fun _ => True) ?hr ?hp (fun _ hk => hk) trivial (Below.refl _ _) (Nat.le_refl _) (by simp) ?_; (case hd => rfl); (case hg => rfl); (case hr => first | (go_simp; done) | (go_simp; rfl)); (case hp => exact (Reps.one (show Kd.M (Kd.int .u64) _ _ _ 1 [.int .u64 1] from rfl) (Reps.none _ _))); intro v247 w74 ho75 hb hg_ hnew_; clear hg_ hnew_; (first | rw [← Ny246.out] at ho75 | (simp only [Int.reduceToNat] at ho75; rw [← Ny246.out] at ho75)); have HO248 := Aside0.mk ho75; clear ho75; have n_ := Aside0.mk (below_step (by repeat (first | exact HB.out | apply pw_below_drewN | apply below_alloc | apply below_drew1)) hb); clear HB; have HB := n_; clear n_; obtain ⟨Ao76, co76, eo76⟩ := Kd.R_slice HO248.out; subst eo76) | ((with_reducible refine gate_callee (f := 27) rfl ?_); refine goesL_ (some 52) rfl rfl Try.func27 (by kernel_rfl) rfl #[.slice Ao76 y246.length co76, .int .i64 65537] rfl (by (try simp only [List.map_toArray, List.map_cons, List.map_nil]); first | done | rfl | (simp only [List.length_drop, List.length_take]; rfl)) ?_; (with_reducible refine (nat_Shl.calls _ _ y246 65537 t249 t252 _ ?side1 ?side2 A6.out).mono ?_); (case side1 => repeat (first | exact (Kd.R_reads' HO248.out).2.2 | (with_reducible refine Kd.C_drewN ?_ _) | (with_reducible refine Kd.C_below ?_ (by assumption)))); (case side2 => exact (Kd.R_reads' HO248.out).2.1); rintro e w77 ⟨v250, rfl, ho0, hb⟩; refine ⟨_, rfl, ?_⟩; have HO251 := Aside0.mk ho0; clear ho0; have n_ := Aside0.mk (below_step (by repeat (first | exact HB.out | apply pw_below_drewN | apply below_alloc | apply below_drew1)) hb); clear HB; have HB := n_; clear n_) | ((with_reducible refine gate_dst (N := 56) rfl ?_); (try (refine gate_guard (by rfl) ?_; dsimp only)); refine Kd.R_lit (Kd.int .u64) _ 46 ?hg (N := 56) ?hd (xs := ([0, 1] : List Int)) (inner := [.int .u64 0, .int .u64 1]) (ok := fun _ => True) (okp := fun _ => True) ?hr ?hp (fun _ hk => hk) trivial (Below.refl _ _) (Nat.le_refl _) (by simp) ?_; (case hd => rfl); (case hg => rfl); (case hr => first | (go_simp; done) | (go_simp; rfl)); (case hp => exact (Reps.one (show Kd.M (Kd.int .u64) _ _ _ 0 [.int .u64 0] from rfl) (Reps.one (show Kd.M (Kd.int .u64) _ _ _ 1 [.int .u64 1] from rfl) (Reps.none _ _)))); intro v254 w78 ho79 hb hg_ hnew_; clear hg_ hnew_; (first | rw [← Ny253.out] at ho79 | (simp only [Int.reduceToNat] at ho79; rw [← Ny253.out] at ho79)); have HO255 := Aside0.mk ho79; clear ho79; have n_ := Aside0.mk (below_step (by repeat (first | exact HB.out | apply pw_below_drewN | apply below_alloc | apply below_drew1)) hb); clear HB; have HB := n_; clear n_; obtain ⟨Ao80, co80, eo80⟩ := Kd.R_slice HO255.out; subst eo80) | ((with_reducible refine gate_callee (f := 28) rfl ?_); refine goesL_ (some 57) rfl rfl Try.func28 (by kernel_rfl) rfl #[.slice Ao80 y253.length co80, .int .i64 1] rfl (by (try simp only [List.map_toArray, List.map_cons, List.map_nil]); first | done | rfl | (simp only [List.length_drop, List.length_take]; rfl)) ?_; (with_reducible refine (nat_Shr.calls k _ _ y253 1 t256 t259 _ ?side1 ?side2 A7.out).mono ?_); (case side1 => repeat (first | exact (Kd.R_reads' HO255.out).2.2 | (with_reducible refine Kd.C_drewN ?_ _) | (with_reducible refine Kd.C_below ?_ (by assumption)))); (case side2 => exact (Kd.R_reads' HO255.out).2.1); rintro e w81 ⟨v257, rfl, ho0, hb⟩; refine ⟨_, rfl, ?_⟩; have HO258 := Aside0.mk ho0; clear ho0; have n_ := Aside0.mk (below_step (by repeat (first | exact HB.out | apply pw_below_drewN | apply below_alloc | apply below_drew1)) hb); clear HB; have HB := n_; clear n_) | ((with_reducible refine gate_dst (N := 61) rfl ?_); (try (refine gate_guard (by rfl) ?_; dsimp only)); refine Kd.R_lit (Kd.int .u64) _ 46 ?hg (N := 61) ?hd (xs := ([1] : List Int)) (inner := [.int .u64 1]) (ok := fun _ => True) (okp := fun _ => True) ?hr ?hp (fun _ hk => hk) trivial (Below.refl _ _) (Nat.le_refl _) (by simp) ?_; (case hd => rfl); (case hg => rfl); (case hr => first | (go_simp; done) | (go_simp; rfl)); (case hp => exact (Reps.one (show Kd.M (Kd.int .u64) _ _ _ 1 [.int .u64 1] from rfl) (Reps.none _ _))); intro v261 w82 ho83 hb hg_ hnew_; clear hg_ hnew_; (first | rw [← Ny260.out] at ho83 | (simp only [Int.reduceToNat] at ho83; rw [← Ny260.out] at ho83)); have HO262 := Aside0.mk ho83; clear ho83; have n_ := Aside0.mk (below_step (by repeat (first | exact HB.out | apply pw_below_drewN | apply below_alloc | apply below_drew1)) hb); clear HB; have HB := n_; clear n_; obtain ⟨Ao84, co84, eo84⟩ := Kd.R_slice HO192.out; subst eo84; obtain ⟨Ao85, co85, eo85⟩ := Kd.R_slice HO262.out; subst eo85) | ((with_reducible refine gate_callee (f := 16) rfl ?_); refine goesL_ (some 62) rfl rfl Try.func16 (by kernel_rfl) rfl #[.slice Ao84 y190.length co84, .slice Ao85 y260.length co85] rfl (by (try simp only [List.map_toArray, List.map_cons, List.map_nil]); first | done | rfl | (simp only [List.length_drop, List.length_take]; rfl)) ?_; (with_reducible refine (nat_Add.calls _ _ y190 _ _ y260 t263 _ ?side1 ?side2 ?side3 ?side4 A8.out).mono ?_); (case side1 => repeat (first | exact (Kd.R_reads' HO192.out).2.2 | (with_reducible refine Kd.C_drewN ?_ _) | (with_reducible refine Kd.C_below ?_ (by assumption)))); (case side2 => exact (Kd.R_reads' HO192.out).2.1); (case side3 => repeat (first | exact (Kd.R_reads' HO262.out).2.2 | (with_reducible refine Kd.C_drewN ?_ _) | (with_reducible refine Kd.C_below ?_ (by assumption)))); (case side4 => exact (Kd.R_reads' HO262.out).2.1); rintro e w86 ⟨v264, rfl, ho0, hb⟩; refine ⟨_, rfl, ?_⟩; have HO265 := Aside0.mk ho0; clear ho0; have n_ := Aside0.mk (below_step (by repeat (first | exact HB.out | apply pw_below_drewN | apply below_alloc | apply below_drew1)) hb); clear HB; have HB := n_; clear n_) | ((with_reducible refine gate_dst (N := 63) rfl ?_); (try (refine gate_guard (by rfl) ?_; dsimp only)); refine Kd.R_lit (Kd.int .u64) _ 46 ?hg (N := 63) ?hd (xs := ([0, 1] : List Int)) (inner := [.int .u64 0, .int .u64 1]) (ok := fun _ => True) (okp := fun _ => True) ?hr ?hp (fun _ hk => hk) trivial (Below.refl _ _) (Nat.le_refl _) (by simp) ?_; (case hd => rfl); (case hg => rfl); (case hr => first | (go_simp; done) | (go_simp; rfl)); (case hp => exact (Reps.one (show Kd.M (Kd.int .u64) _ _ _ 0 [.int .u64 0] from rfl) (Reps.one (show Kd.M (Kd.int .u64) _ _ _ 1 [.int .u64 1] from rfl) (Reps.none _ _)))); intro v267 w87 ho88 hb hg_ hnew_; clear hg_ hnew_; (first | rw [← Ny266.out] at ho88 | (simp only [Int.reduceToNat] at ho88; rw [← Ny266.out] at ho88)); have HO268 := Aside0.mk ho88; clear ho88; have n_ := Aside0.mk (below_step (by repeat (first | exact HB.out | apply pw_below_drewN | apply below_alloc | apply below_drew1)) hb); clear HB; have HB := n_; clear n_; obtain ⟨Ao89, co89, eo89⟩ := Kd.V_slice HO265.out; subst eo89; obtain ⟨Ao90, co90, eo90⟩ := Kd.R_slice HO268.out; subst eo90) | ((with_reducible refine gate_callee (f := 15) rfl ?_); refine goesL_ (some 64) rfl rfl Try.func15 (by kernel_rfl) rfl #[.slice Ao89 t263.length co89, .slice Ao90 y266.length co90] rfl (by (try simp only [List.map_toArray, List.map_cons, List.map_nil]); first | done | rfl | (simp only [List.length_drop, List.length_take]; rfl)) ?_; (with_reducible refine (quipuref01_Same.calls k _ _ t263 _ _ y266 true _ ?side1 ?side2 ?side3 ?side4 A9.out).mono ?_); (case side1 => repeat (first | exact (Kd.V_reads' HO265.out).2.2 | (with_reducible refine Kd.C_drewN ?_ _) | (with_reducible refine Kd.C_below ?_ (by assumption)))); (case side2 => exact (Kd.V_reads' HO265.out).2.1); (case side3 => repeat (first | exact (Kd.R_reads' HO268.out).2.2 | (with_reducible refine Kd.C_drewN ?_ _) | (with_reducible refine Kd.C_below ?_ (by assumption)))); (case side4 => exact (Kd.R_reads' HO268.out).2.1); rintro e w' ⟨rfl, ⟨nd, rfl⟩⟩; refine ⟨_, rfl, ?_⟩; obtain ⟨Ao91, co91, eo91⟩ := Kd.V_slice HO201.out; subst eo91) | (go_at_call 15; (with_reducible refine (quipuref01_Same.calls k _ _ t199 _ _ y190 true _ ?side1 ?side2 ?side3 ?side4 A11.out).mono ?_); (case side1 => repeat (first | exact (Kd.V_reads' HO201.out).2.2 | (with_reducible refine Kd.C_drewN ?_ _) | (with_reducible refine Kd.C_below ?_ (by assumption)))); (case side2 => exact (Kd.V_reads' HO201.out).2.1); (case side3 => repeat (first | exact (Kd.R_reads' HO192.out).2.2 | (with_reducible refine Kd.C_drewN ?_ _) | (with_reducible refine Kd.C_below ?_ (by assumption)))); (case side4 => exact (Kd.R_reads' HO192.out).2.1); rintro e w' ⟨rfl, ⟨nd, rfl⟩⟩) | ((with_reducible refine gate_dst (N := 80) rfl ?_); (try (refine gate_guard (by rfl) ?_; dsimp only)); refine Kd.R_lit (Kd.int .u64) _ 46 ?hg (N := 80) ?hd (xs := ([3] : List Int)) (inner := [.int .u64 3]) (ok := fun _ => True) (okp := fun _ => True) ?hr ?hp (fun _ hk => hk) trivial (Below.refl _ _) (Nat.le_refl _) (by simp) ?_; (case hd => rfl); (case hg => rfl); (case hr => first | (go_simp; done) | (go_simp; rfl)); (case hp => exact (Reps.one (show Kd.M (Kd.int .u64) _ _ _ 3 [.int .u64 3] from rfl) (Reps.none _ _))); intro v272 w92 ho93 hb hg_ hnew_; clear hg_ hnew_; (first | rw [← Ny271.out] at ho93 | (simp only [Int.reduceToNat] at ho93; rw [← Ny271.out] at ho93)); have HO273 := Aside0.mk ho93; clear ho93; have n_ := Aside0.mk (below_step (by repeat (first | exact HB.out | apply pw_below_drewN | apply below_alloc | apply below_drew1)) hb); clear HB; have HB := n_; clear n_; obtain ⟨Ao94, co94, eo94⟩ := Kd.V_slice HO221.out; subst eo94; obtain ⟨Ao95, co95, eo95⟩ := Kd.R_slice HO273.out; subst eo95) | (go_at_call 15; (with_reducible refine (quipuref01_Same.calls k _ _ t219 _ _ y271 true _ ?side1 ?side2 ?side3 ?side4 A15.out).mono ?_); (case side1 => repeat (first | exact (Kd.V_reads' HO221.out).2.2 | (with_reducible refine Kd.C_drewN ?_ _) | (with_reducible refine Kd.C_below ?_ (by assumption)))); (case side2 => exact (Kd.V_reads' HO221.out).2.1); (case side3 => repeat (first | exact (Kd.R_reads' HO273.out).2.2 | (with_reducible refine Kd.C_drewN ?_ _) | (with_reducible refine Kd.C_below ?_ (by assumption)))); (case side4 => exact (Kd.R_reads' HO273.out).2.1); rintro e w' ⟨rfl, ⟨nd, rfl⟩⟩) | ((with_reducible refine gate_dst (N := 85) rfl ?_); (try (refine gate_guard (by rfl) ?_; dsimp only)); refine Kd.R_lit (Kd.int .u64) _ 46 ?hg (N := 85) ?hd (xs := ([1] : List Int)) (inner := [.int .u64 1]) (ok := fun _ => True) (okp := fun _ => True) ?hr ?hp (fun _ hk => hk) trivial (Below.refl _ _) (Nat.le_refl _) (by simp) ?_; (case hd => rfl); (case hg => rfl); (case hr => first | (go_simp; done) | (go_simp; rfl)); (case hp => exact (Reps.one (show Kd.M (Kd.int .u64) _ _ _ 1 [.int .u64 1] from rfl) (Reps.none _ _))); intro v276 w96 ho97 hb hg_ hnew_; clear hg_ hnew_; (first | rw [← Ny275.out] at ho97 | (simp only [Int.reduceToNat] at ho97; rw [← Ny275.out] at ho97)); have HO277 := Aside0.mk ho97; clear ho97; have n_ := Aside0.mk (below_step (by repeat (first | exact HB.out | apply pw_below_drewN | apply below_alloc | apply below_drew1)) hb); clear HB; have HB := n_; clear n_; obtain ⟨Ao98, co98, eo98⟩ := Kd.V_slice HO224.out; subst eo98; obtain ⟨Ao99, co99, eo99⟩ := Kd.R_slice HO277.out; subst eo99) | (go_at_call 15; (with_reducible refine (quipuref01_Same.calls k _ _ t222 _ _ y275 true _ ?side1 ?side2 ?side3 ?side4 A17.out).mono ?_); (case side1 => repeat (first | exact (Kd.V_reads' HO224.out).2.2 | (with_reducible refine Kd.C_drewN ?_ _) | (with_reducible refine Kd.C_below ?_ (by assumption)))); (case side2 => exact (Kd.V_reads' HO224.out).2.1); (case side3 => repeat (first | exact (Kd.R_reads' HO277.out).2.2 | (with_reducible refine Kd.C_drewN ?_ _) | (with_reducible refine Kd.C_below ?_ (by assumption)))); (case side4 => exact (Kd.R_reads' HO277.out).2.1); rintro e w' ⟨rfl, ⟨nd, rfl⟩⟩) | ((with_reducible refine gate_dst (N := 98) rfl ?_); (try (refine gate_guard (by rfl) ?_; dsimp only)); refine Kd.R_lit (Kd.int .u64) _ 46 ?hg (N := 98) ?hd (xs := ([9223372036854775808, 1] : List Int)) (inner := [.int .u64 9223372036854775808, .int .u64 1]) (ok := fun _ => True) (okp := fun _ => True) ?hr ?hp (fun _ hk => hk) trivial (Below.refl _ _) (Nat.le_refl _) (by simp) ?_; (case hd => rfl); (case hg => rfl); (case hr => first | (go_simp; done) | (go_simp; rfl)); (case hp => exact (Reps.one (show Kd.M (Kd.int .u64) _ _ _ 9223372036854775808 [.int .u64 9223372036854775808] from rfl) (Reps.one (show Kd.M (Kd.int .u64) _ _ _ 1 [.int .u64 1] from rfl) (Reps.none _ _)))); intro v280 w100 ho101 hb hg_ hnew_; clear hg_ hnew_; (first | rw [← Ny279.out] at ho101 | (simp only [Int.reduceToNat] at ho101; rw [← Ny279.out] at ho101)); have HO281 := Aside0.mk ho101; clear ho101; have n_ := Aside0.mk (below_step (by repeat (first | exact HB.out | apply pw_below_drewN | apply below_alloc | apply below_drew1)) hb); clear HB; have HB := n_; clear n_; obtain ⟨Ao102, co102, eo102⟩ := Kd.V_slice HO244.out; subst eo102; obtain ⟨Ao103, co103, eo103⟩ := Kd.R_slice HO281.out; subst eo103) | (go_at_call 15; (with_reducible refine (quipuref01_Same.calls k _ _ t242 _ _ y279 true _ ?side1 ?side2 ?side3 ?side4 A21.out).mono ?_); (case side1 => repeat (first | exact (Kd.V_reads' HO244.out).2.2 | (with_reducible refine Kd.C_drewN ?_ _) | (with_reducible refine Kd.C_below ?_ (by assumption)))); (case side2 => exact (Kd.V_reads' HO244.out).2.1); (case side3 => repeat (first | exact (Kd.R_reads' HO281.out).2.2 | (with_reducible refine Kd.C_drewN ?_ _) | (with_reducible refine Kd.C_below ?_ (by assumption)))); (case side4 => exact (Kd.R_reads' HO281.out).2.1); rintro e w' ⟨rfl, ⟨nd, rfl⟩⟩) | ((with_reducible refine gate_dst (N := 111) rfl ?_); (try (refine gate_guard (by rfl) ?_; dsimp only)); refine Kd.R_lit (Kd.int .u64) _ 46 ?hg (N := 111) ?hd (xs := ([9223372036854775808] : List Int)) (inner := [.int .u64 9223372036854775808]) (ok := fun _ => True) (okp := fun _ => True) ?hr ?hp (fun _ hk => hk) trivial (Below.refl _ _) (Nat.le_refl _) (by simp) ?_; (case hd => rfl); (case hg => rfl); (case hr => first | (go_simp; done) | (go_simp; rfl)); (case hp => exact (Reps.one (show Kd.M (Kd.int .u64) _ _ _ 9223372036854775808 [.int .u64 9223372036854775808] from rfl) (Reps.none _ _))); intro v284 w104 ho105 hb hg_ hnew_; clear hg_ hnew_; (first | rw [← Ny283.out] at ho105 | (simp only [Int.reduceToNat] at ho105; rw [← Ny283.out] at ho105)); have HO285 := Aside0.mk ho105; clear ho105; have n_ := Aside0.mk (below_step (by repeat (first | exact HB.out | apply pw_below_drewN | apply below_alloc | apply below_drew1)) hb); clear HB; have HB := n_; clear n_; obtain ⟨Ao106, co106, eo106⟩ := Kd.V_slice HO258.out; subst eo106; obtain ⟨Ao107, co107, eo107⟩ := Kd.R_slice HO285.out; subst eo107) | (go_at_call 15; (with_reducible refine (quipuref01_Same.calls k _ _ t256 _ _ y283 true _ ?side1 ?side2 ?side3 ?side4 A25.out).mono ?_); (case side1 => repeat (first | exact (Kd.V_reads' HO258.out).2.2 | (with_reducible refine Kd.C_drewN ?_ _) | (with_reducible refine Kd.C_below ?_ (by assumption)))); (case side2 => exact (Kd.V_reads' HO258.out).2.1); (case side3 => repeat (first | exact (Kd.R_reads' HO285.out).2.2 | (with_reducible refine Kd.C_drewN ?_ _) | (with_reducible refine Kd.C_below ?_ (by assumption)))); (case side4 => exact (Kd.R_reads' HO285.out).2.1); rintro e w' ⟨rfl, ⟨nd, rfl⟩⟩) | ((with_reducible refine gate_dst (N := 119) rfl ?_); (try (refine gate_guard (by rfl) ?_; dsimp only)); refine Kd.R_lit (Kd.int .u64) _ 46 ?hg (N := 119) ?hd (xs := ([0] : List Int)) (inner := [.int .u64 0]) (ok := fun _ => True) (okp := fun _ => True) ?hr ?hp (fun _ hk => hk) trivial (Below.refl _ _) (Nat.le_refl _) (by simp) ?_; (case hd => rfl); (case hg => rfl); (case hr => first | (go_simp; done) | (go_simp; rfl)); (case hp => exact (Reps.one (show Kd.M (Kd.int .u64) _ _ _ 0 [.int .u64 0] from rfl) (Reps.none _ _))); intro v288 w108 ho109 hb hg_ hnew_; clear hg_ hnew_; (first | rw [← Ny287.out] at ho109 | (simp only [Int.reduceToNat] at ho109; rw [← Ny287.out] at ho109)); have HO289 := Aside0.mk ho109; clear ho109; have n_ := Aside0.mk (below_step (by repeat (first | exact HB.out | apply pw_below_drewN | apply below_alloc | apply below_drew1)) hb); clear HB; have HB := n_; clear n_; obtain ⟨Ao110, co110, eo110⟩ := Kd.R_slice HO289.out; subst eo110) | (go_at_call 31; (with_reducible refine (nat_Norm.calls k _ _ y287 t290 _ ?side1 ?side2 A28.out).mono ?_); (case side1 => repeat (first | exact (Kd.R_reads' HO289.out).2.2 | (with_reducible refine Kd.C_drewN ?_ _) | (with_reducible refine Kd.C_below ?_ (by assumption)))); (case side2 => exact (Kd.R_reads' HO289.out).2.1); rintro e w111 ⟨v291, rfl, ho0, hb⟩; have HO292 := Aside0.mk ho0; clear ho0; have n_ := Aside0.mk (below_step (by repeat (first | exact HB.out | apply pw_below_drewN | apply below_alloc | apply below_drew1)) hb); clear HB; have HB := n_; clear n_; obtain ⟨Ao112, co112, eo112⟩ := Kd.R_slice HO292.out; subst eo112) | (go_at_call 32; (with_reducible refine (nat_Bits.calls k _ _ y190 t293 _ ?side1 ?side2 A30.out).mono ?_); (case side1 => repeat (first | exact (Kd.R_reads' HO192.out).2.2 | (with_reducible refine Kd.C_drewN ?_ _) | (with_reducible refine Kd.C_below ?_ (by assumption)))); (case side2 => exact (Kd.R_reads' HO192.out).2.1); rintro e w113 ⟨rfl, hb⟩; have n_ := Aside0.mk (below_step (by repeat (first | exact HB.out | apply pw_below_drewN | apply below_alloc | apply below_drew1)) hb); clear HB; have HB := n_; clear n_) | (go_at_call 19; (refine (nat_Cmp.calls k _ _ y190 _ _ ([] : List Int) t294 _ ?side1 ?side2 ?side3 ?side4 A32.out).mono ?_); (case side1 => repeat (first | exact (Kd.R_reads' HO192.out).2.2 | (with_reducible refine Kd.C_drewN ?_ _) | (with_reducible refine Kd.C_below ?_ (by assumption)))); (case side2 => exact (Kd.R_reads' HO192.out).2.1); (case side3 => exact Kd.C_nil _ _); (case side4 => exact Nat.le_refl _); rintro e w114 ⟨rfl, hb⟩; have n_ := Aside0.mk (below_step (by repeat (first | exact HB.out | apply pw_below_drewN | apply below_alloc | apply below_drew1)) hb); clear HB; have HB := n_; clear n_) | (go_at_call 23; (with_reducible refine (nat_Mul.calls k _ _ y190 _ _ y190 t295 _ ?side1 ?side2 ?side3 ?side4 A34.out).mono ?_); (case side1 => repeat (first | exact (Kd.R_reads' HO192.out).2.2 | (with_reducible refine Kd.C_drewN ?_ _) | (with_reducible refine Kd.C_below ?_ (by assumption)))); (case side2 => exact (Kd.R_reads' HO192.out).2.1); (case side3 => repeat (first | exact (Kd.R_reads' HO192.out).2.2 | (with_reducible refine Kd.C_drewN ?_ _) | (with_reducible refine Kd.C_below ?_ (by assumption)))); (case side4 => exact (Kd.R_reads' HO192.out).2.1); rintro e w115 ⟨v296, rfl, ho0, hb⟩; have HO297 := Aside0.mk ho0; clear ho0; have n_ := Aside0.mk (below_step (by repeat (first | exact HB.out | apply pw_below_drewN | apply below_alloc | apply below_drew1)) hb); clear HB; have HB := n_; clear n_) | ((with_reducible refine gate_dst (N := 138) rfl ?_); (try (refine gate_guard (by rfl) ?_; dsimp only)); refine Kd.R_lit (Kd.int .u64) _ 46 ?hg (N := 138) ?hd (xs := ([1, 18446744073709551614] : List Int)) (inner := [.int .u64 1, .int .u64 18446744073709551614]) (ok := fun _ => True) (okp := fun _ => True) ?hr ?hp (fun _ hk => hk) trivial (Below.refl _ _) (Nat.le_refl _) (by simp) ?_; (case hd => rfl); (case hg => rfl); (case hr => first | (go_simp; done) | (go_simp; rfl)); (case hp => exact (Reps.one (show Kd.M (Kd.int .u64) _ _ _ 1 [.int .u64 1] from rfl) (Reps.one (show Kd.M (Kd.int .u64) _ _ _ 18446744073709551614 [.int .u64 18446744073709551614] from rfl) (Reps.none _ _)))); intro v299 w116 ho117 hb hg_ hnew_; clear hg_ hnew_; (first | rw [← Ny298.out] at ho117 | (simp only [Int.reduceToNat] at ho117; rw [← Ny298.out] at ho117)); have HO300 := Aside0.mk ho117; clear ho117; have n_ := Aside0.mk (below_step (by repeat (first | exact HB.out | apply pw_below_drewN | apply below_alloc | apply below_drew1)) hb); clear HB; have HB := n_; clear n_; obtain ⟨Ao118, co118, eo118⟩ := Kd.V_slice HO297.out; subst eo118; obtain ⟨Ao119, co119, eo119⟩ := Kd.R_slice HO300.out; subst eo119) | (go_at_call 15; (with_reducible refine (quipuref01_Same.calls k _ _ t295 _ _ y298 true _ ?side1 ?side2 ?side3 ?side4 A35.out).mono ?_); (case side1 => repeat (first | exact (Kd.V_reads' HO297.out).2.2 | (with_reducible refine Kd.C_drewN ?_ _) | (with_reducible refine Kd.C_below ?_ (by assumption)))); (case side2 => exact (Kd.V_reads' HO297.out).2.1); (case side3 => repeat (first | exact (Kd.R_reads' HO300.out).2.2 | (with_reducible refine Kd.C_drewN ?_ _) | (with_reducible refine Kd.C_below ?_ (by assumption)))); (case side4 => exact (Kd.R_reads' HO300.out).2.1); rintro e w' ⟨rfl, ⟨nd, rfl⟩⟩) | (go_at_call 37; (with_reducible refine (nat_Of.calls k 5 t302 _ A37.out).mono ?_); rintro e w120 ⟨v303, rfl, ho0, hb⟩; have HO304 := Aside0.mk ho0; clear ho0; have n_ := Aside0.mk (below_step (by repeat (first | exact HB.out | apply pw_below_drewN | apply below_alloc | apply below_drew1)) hb); clear HB; have HB := n_; clear n_) | ((with_reducible refine gate_dst (N := 143) rfl ?_); (try (refine gate_guard (by rfl) ?_; dsimp only)); refine Kd.R_lit (Kd.int .u64) _ 46 ?hg (N := 143) ?hd (xs := ([5] : List Int)) (inner := [.int .u64 5]) (ok := fun _ => True) (okp := fun _ => True) ?hr ?hp (fun _ hk => hk) trivial (Below.refl _ _) (Nat.le_refl _) (by simp) ?_; (case hd => rfl); (case hg => rfl); (case hr => first | (go_simp; done) | (go_simp; rfl)); (case hp => exact (Reps.one (show Kd.M (Kd.int .u64) _ _ _ 5 [.int .u64 5] from rfl) (Reps.none _ _))); intro v306 w121 ho122 hb hg_ hnew_; clear hg_ hnew_; (first | rw [← Ny305.out] at ho122 | (simp only [Int.reduceToNat] at ho122; rw [← Ny305.out] at ho122)); have HO307 := Aside0.mk ho122; clear ho122; have n_ := Aside0.mk (below_step (by repeat (first | exact HB.out | apply pw_below_drewN | apply below_alloc | apply below_drew1)) hb); clear HB; have HB := n_; clear n_; obtain ⟨Ao123, co123, eo123⟩ := Kd.R_slice HO304.out; subst eo123; obtain ⟨Ao124, co124, eo124⟩ := Kd.R_slice HO307.out; subst eo124) | (go_at_call 15; (with_reducible refine (quipuref01_Same.calls k _ _ t302 _ _ y305 true _ ?side1 ?side2 ?side3 ?side4 A38.out).mono ?_); (case side1 => repeat (first | exact (Kd.R_reads' HO304.out).2.2 | (with_reducible refine Kd.C_drewN ?_ _) | (with_reducible refine Kd.C_below ?_ (by assumption)))); (case side2 => exact (Kd.R_reads' HO304.out).2.1); (case side3 => repeat (first | exact (Kd.R_reads' HO307.out).2.2 | (with_reducible refine Kd.C_drewN ?_ _) | (with_reducible refine Kd.C_below ?_ (by assumption)))); (case side4 => exact (Kd.R_reads' HO307.out).2.1); rintro e w' ⟨rfl, ⟨nd, rfl⟩⟩))
                                      go_ret
                                      exact ⟨by first | rfl | (simp [errW_none, errW_some] <;> rfl) | (simp [*, errW_none, errW_some] <;> rfl), by repeat (first | (with_reducible first | exact HB.out | apply below_alloc | apply pw_below_drewN | apply below_drew1) | exact HB.out)⟩
                                    · replace c39 := Bool.eq_false_iff.mpr c39
                                      subst c39
                                      have H1 : (none) = some r := by rw [if_neg (show ¬ (false = true) by decide)] at H; exact H
                                      clear H
                                      have H := H1
                                      clear H1
                                      exact absurd H (by simp)
                                  · replace c36 := Bool.eq_false_iff.mpr c36
                                    subst c36
                                    have H1 : (none) = some r := by rw [if_neg (show ¬ (false = true) by decide)] at H; exact H
                                    clear H
                                    have H := H1
                                    clear H1
                                    exact absurd H (by simp)
                                · rw [if_neg c33] at H
                                  exact absurd H (by simp)
                              · rw [if_neg c31] at H
                                exact absurd H (by simp)
                            · rw [if_neg c29] at H
                              exact absurd H (by simp)
                          · rw [if_neg c27] at H
                            exact absurd H (by simp)
                        · replace c26 := Bool.eq_false_iff.mpr c26
                          subst c26
                          have H1 : (none) = some r := by rw [if_neg (show ¬ (false = true) by decide)] at H; exact H
                          clear H
                          have H := H1
                          clear H1
                          exact absurd H (by simp)
                      · rw [if_neg c24] at H
                        exact absurd H (by simp)
                    · rw [if_neg c23] at H
                      exact absurd H (by simp)
                  · replace c22 := Bool.eq_false_iff.mpr c22
                    subst c22
                    have H1 : (none) = some r := by rw [if_neg (show ¬ (false = true) by decide)] at H; exact H
                    clear H
                    have H := H1
                    clear H1
                    exact absurd H (by simp)
                · rw [if_neg c20] at H
                  exact absurd H (by simp)
              · rw [if_neg c19] at H
                exact absurd H (by simp)
            · replace c18 := Bool.eq_false_iff.mpr c18
              subst c18
              have H1 : (none) = some r := by rw [if_neg (show ¬ (false = true) by decide)] at H; exact H
              clear H
              have H := H1
              clear H1
              exact absurd H (by simp)
          · replace c16 := Bool.eq_false_iff.mpr c16
            subst c16
            have H1 : (none) = some r := by rw [if_neg (show ¬ (false = true) by decide)] at H; exact H
            clear H
            have H := H1
            clear H1
            exact absurd H (by simp)
        · rw [if_neg c14] at H
          exact absurd H (by simp)
      · rw [if_neg c13] at H
        exact absurd H (by simp)
    · replace c12 := Bool.eq_false_iff.mpr c12
      subst c12
      have H1 : (none) = some r := by rw [if_neg (show ¬ (false = true) by decide)] at H; exact H
      clear H
      have H := H1
      clear H1
      exact absurd H (by simp)
  · replace c10 := Bool.eq_false_iff.mpr c10
    subst c10
    have H1 : (none) = some r := by rw [if_neg (show ¬ (false = true) by decide)] at H; exact H
    clear H
    have H := H1
    clear H1
    exact absurd H (by simp)

end Go.Proofs.Ytfaknblpkegekaa.Q
end
section
namespace Go.Proofs.Ytfaknblpkegekaa.Q
open Go.RowKit Go.Proofs.YtfaknblpkegekaaW.PrintWords Go.Proofs.YtfaknblpkegekaaW.PrintLast Go.Proofs.YtfaknblpkegekaaW.PrintMore
set_option maxRecDepth 100000 in
theorem awake60 : quipulaw01_awake.f 60 = some true := by decide +kernel
end Go.Proofs.Ytfaknblpkegekaa.Q
end
