/- The walk of quipulaw13.AffixReads: where Parse and the document's Parse answer alike, it tells true. -/
import Derived.Test.YtieipeigjhicfaaQx11
namespace Go.Proofs.Ytieipeigjhicfaa.Q
open Go.RowKit Go.Proofs.YtieipeigjhicfaaW.PrintWords Go.Proofs.YtieipeigjhicfaaW.PrintLast Go.Proofs.YtieipeigjhicfaaW.PrintMore
attribute [local go_sem] max2_int min2_int max_two min_two max_three min_three max_four min_four
set_option linter.unusedVariables false
set_option linter.unusedSimpArgs false
section
variable {P : Program} {ops : Array Oper} {rest : List Oper} {o : Oper} {a : Act} {Q : Exit → Act → World → Prop}
/-- append(v, x) where v is a row cut to its length: the row is made anew; nothing that was there changes. -/
theorem clip_append {W : World} (base : Nat) (hgd : o.guard = none) (s x : Operand) (t e : TypeId) (z : Value) (size bytes : Nat)
    (ho : o.op = .call { callee := .builtin .append, args := #[s, x], argTypes := #[t, t] })
    (ht : P.underlying t = some (.slice e)) (hinfo : (P.info? e).map (fun i => (i.zero, i.size, i.bytes)) = some (some z, size, bytes)) (hs0 : 0 < size) (hb0 : 0 < bytes)
    (A : Option Addr) (n c : Nat) (xs ys : List Value) (hs : a.eval s = .slice A n n) (hx : a.eval x = .slice (some ⟨W.heap.size, 0, none⟩) 1 1) (hys : ys.length = size)
    (HO : W.ownsRow base e size (.slice A n c) n xs) (hl : (n + 1) * bytes ≤ 140737488355328)
    (h : ∀ A1 c1 w1, Below W.heap.size W w1 → wpList P ops Q rest (a.put o.dst (.slice A1 (n + 1) c1)) w1) :
    wpList P ops Q (o :: rest) a (W.alloc (.cells ys.toArray e)) := by
  obtain ⟨i0, hi, hzz⟩ := Option.map_eq_some_iff.1 hinfo
  simp only [Prod.mk.injEq] at hzz
  obtain ⟨hz0, hz1, hz2⟩ := hzz
  subst hz1
  subst hz2
  have hlen : n + 1 ≤ 140737488355328 := Nat.le_trans (Nat.le_mul_of_pos_right _ hb0) hl
  have hnews : ∀ j u, ys[j]? = some u → (W.alloc (.cells ys.toArray e)).cell? ((⟨W.heap.size, 0, none⟩ : Addr).add j) = some u := by
    simpa using World.news_of_block (cs := ys.toArray) (t := e) (fr := (0, 0)) (heap_alloc_new W (.cells ys.toArray e))
  have HO' : (W.alloc (.cells ys.toArray e)).ownsRow base e i0.size (.slice A n c) n xs := HO.alloc _
  have fin : ∀ A1 c1 w1, (Builtin.append_ #[t, t] o.type #[.slice A n n, .slice (some ⟨W.heap.size, 0, none⟩) 1 1]).run P (W.alloc (.cells ys.toArray e)) = .ok (.slice A1 (n + 1) c1) w1 → Below W.heap.size W w1 → wpList P ops Q (o :: rest) a (W.alloc (.cells ys.toArray e)) := by
    intro A1 c1 w1 hr hb
    refine wpList_plain hgd fun _ hK => ?_
    unfold Oper.wp execOp
    simp only [ho, resolve, invoke, builtin, Sem.run_bind, Sem.run_pure, Result.andThen_ok, List.map_toArray, List.map_cons, List.map_nil, hs, hx, hr]
    exact hK _ _ (h A1 c1 w1 hb)
  rcases HO.2 with ⟨hv, h0⟩ | ⟨g, cap, cur, hv, hb, hg, hnc, hcm, hcs, ht'⟩
  · cases hv
    exact fin _ _ _ (by simpa using run_append_nil (P := P) (W.alloc (.cells ys.toArray e)) t o.type e i0 z ht hi hz0 ⟨W.heap.size, 0, none⟩ 1 1 ys (by rw [hys, Nat.one_mul]) hnews (by decide) (by decide) (by omega)) (below_alloc (below_drew1 (below_alloc (Below.refl _ _) _)) _)
  · cases hv
    exact fin _ _ _ (run_append_grow (P := P) (W.alloc (.cells ys.toArray e)) t o.type e i0 z ht hi hz0 ⟨g, 0, none⟩ n n xs HO.1 (HO'.cells (g := g) rfl) ⟨W.heap.size, 0, none⟩ 1 1 ys (by rw [hys, Nat.one_mul]) hnews (by omega) (by omega) (growslice_fits (by omega) hl)) (below_alloc (below_drew1 (below_alloc (Below.refl _ _) _)) _)
end
theorem R_parts {w : World} {base : Nat} {ok : Nat → Prop} {v : Value} {xs : List S32} (h : Kd.R k32 32 w base ok v xs) : ∃ inner, w.ownsRow base 32 3 v xs.length inner := Kd.R_own h
theorem R_far3 {w : World} {base : Nat} {ok : Nat → Prop} {v : Value} {xs : List S32} (h : Kd.R k32 32 w base ok v xs) (g : Nat) (hok : ∀ k, ok k → k ≠ g) (i j k : Nat) (a b c : Value) : Kd.R k32 32 (((w.setCell ⟨g, i, none⟩ a).setCell ⟨g, j, none⟩ b).setCell ⟨g, k, none⟩ c) base ok v xs :=
  Kd.R_far (Kd.R_far (Kd.R_far h (p := ⟨g, i, none⟩) hok a) (p := ⟨g, j, none⟩) hok b) (p := ⟨g, k, none⟩) hok c
def overT : S32 → S32 := fun _ => ⟨-8, 0, ⟨#[]⟩⟩
set_option maxHeartbeats 8000000 in
set_option maxRecDepth 100000 in
theorem reads_walk (a0 : ByteArray) (l : List S32) (e : Int) (k k2 k3 : Nat) (w : World) (hG : Glob w) (h1 : affix_Parse.f a0 = some (l, e)) (h2 : quipuref13_Parse.f k a0 = some (l, e)) (h3 : quipuref13_Same.f k2 l l = some true) (h4 : quipulaw13_fixed.f k3 = some true) (hl : l.length < 4398046511103) :
    Calls Try.prog 4 #[.string a0] w fun e w' => e = .returned (.bool true) ∧ Below w.heap.size w w' := by
  have hu32 := Try.underlying32
  have hu22 := Try.underlying22
  have HB := Aside0.mk (Below.refl w.heap.size w)
  have HG := Aside0.mk hG
  have H1 := Aside0.mk h1
  have H2 := Aside0.mk h2
  have H3 := Aside0.mk h3
  have H4 := Aside0.mk h4
  have HL := Aside0.mk hl
  have he1 : (e != e) = false := by simp
  have he2 : decide (e = e) = true := by simp
  clear hG h1 h2 h3 h4 hl
  go_enter Try.func4, Try.ntmps4
  go_wp2_with (first | (go_at_call 19; go_loud (with_reducible refine (parse_own a0 l e _ HG.out H1.out).mono ?_); rintro e w1 ⟨v1, rfl, ⟨A1, c1, ev, ho⟩, hb⟩; subst ev; have HO := Aside0.mk (Kd.R_mono (ok' := fun k_ => w.heap.size ≤ k_ ∧ k_ < w1.heap.size) (Kd.R_bound ho) (fun _ hk_ => ⟨hk_.2.1, hk_.2.2.1⟩)); have n0_ := Aside0.mk (below_step HB.out hb); clear HB; have HB := n0_; clear n0_ ho hb) | (go_at_call 20; go_loud (with_reducible refine (quipuref13_Parse.calls k a0 l e _ H2.out).mono ?_); rintro e w2 ⟨v2, rfl, ho, hb⟩; obtain ⟨A2, c2, ev⟩ := Kd.R_slice ho; subst ev; have HO2 := Aside0.mk (Kd.R_mono (ok' := fun k_ => w1.heap.size ≤ k_) (Kd.R_bound ho) (fun _ hk_ => hk_.2.1)); have n1_ := Aside0.mk (Kd.R_below HO.out hb); have n0_ := Aside0.mk (below_step HB.out hb); clear HB HO; have HB := n0_; have HO := n1_; clear n0_ n1_ ho hb) | (go_at_call 15; go_loud (with_reducible refine (quipuref13_Same.calls k2 A1 l.length l A2 c2 l true _ ?side1 ?side2 ?side3 ?side4 H3.out).mono ?_); (case side1 => exact (Kd.R_reads' HO.out).2.2); (case side2 => exact Nat.le_refl _); (case side3 => exact (Kd.R_reads' HO2.out).2.2); (case side4 => exact (Kd.R_reads' HO2.out).2.1); rintro e w3 ⟨rfl, ⟨nd, rfl⟩⟩))
  have HT0 := Aside0.mk (show turned overT l 0 = l by simp [turned])
  go_loopg [7] l.length (fun gk v7 wr => ∃ i : Nat, v7 = .int .i64 i ∧ Aside0 (i + gk = l.length) ∧ Aside0 (Kd.R k32 32 wr w.heap.size (fun k_ => w.heap.size ≤ k_ ∧ k_ < w1.heap.size) (.slice A1 l.length c1) (turned overT l i)) ∧ Aside0 (Kd.R k32 32 wr w1.heap.size (fun k_ => w1.heap.size ≤ k_) (.slice A2 l.length c2) l) ∧ Aside0 (Below w.heap.size w wr))
  case atStart => exact ⟨0, rfl, ⟨by omega⟩, ⟨by rw [HT0.out]; (with_reducible repeat (first | apply Kd.R_alloc | apply Kd.R_drewN | apply Kd.R_drew)); exact HO.out⟩, ⟨by (with_reducible repeat (first | apply Kd.R_alloc | apply Kd.R_drewN | apply Kd.R_drew)); exact HO2.out⟩, ⟨by repeat (first | (with_reducible first | exact HB.out | apply below_alloc | apply pw_below_drewN | apply below_drew1) | exact HB.out)⟩⟩
  case round =>
    clear HO HO2 HB
    obtain ⟨i, rfl, HI, HO, HO2, HB⟩ := hrel
    cases gk with
    | zero =>
      have hin : i = l.length := by have := HI.out; omega
      subst hin
      have hlw : wrap64 ((l.length : Int) + 1) = (l.length : Int) + 1 := by have := HL.out; unfold wrap64; omega
      have e1 : (((l.length + 1 : Nat) : Int) == wrap64 ((l.length : Int) + 1)) = true := by rw [hlw]; exact beq_iff_eq.mpr rfl
      have e2 : ((l.length : Int) + 1 == wrap64 ((l.length : Int) + 1)) = true := by rw [hlw]; exact beq_iff_eq.mpr rfl
      clear hlw
      obtain ⟨inner, how⟩ := R_parts HO.out
      rw [turned_len] at how
      have HOW := Aside0.mk how
      clear how HO
      go_wp2_with (first | ((with_reducible refine gate_builtin (b := .append) (xs := #[.tmp 39, .tmp 41]) rfl ?_); at_builtin; refine clip_append w.heap.size rfl (.tmp 39) (.tmp 41) 22 32 (.agg #[(.int .i64 0), (.int .i64 0), (.string ⟨#[]⟩)]) 3 32 rfl Try.underlying22 info32 (by decide) (by decide) A1 l.length c1 inner [.int .i64 (-9), .int .i64 0, .string ⟨#[]⟩] rfl rfl rfl ?aO ?aL ?_; (case aO => exact HOW.out); (case aL => have := HL.out; omega); intro A4 c4 w4 hb4; have n1_ := Aside0.mk (Kd.R_below (by (with_reducible repeat (first | apply Kd.R_alloc | apply Kd.R_drewN | apply Kd.R_drew)); exact HO2.out) hb4); have n0_ := Aside0.mk (below_step (by repeat (first | (with_reducible first | exact HB.out | apply below_alloc | apply pw_below_drewN | apply below_drew1) | exact HB.out)) hb4); clear HB HO2; have HB := n0_; have HO2 := n1_; clear n0_ n1_ hb4) | (go_at_call 19; (with_reducible refine (parse_own a0 l e _ (Glob_below HG.out (by repeat (first | (with_reducible first | exact HB.out | apply below_alloc | apply pw_below_drewN | apply below_drew1) | exact HB.out))) H1.out).mono ?_); rintro e w5 ⟨v5, rfl, ⟨A5, c5, ev, ho⟩, hb⟩; subst ev; have HO5 := Aside0.mk ho; have n1_ := Aside0.mk (Kd.R_below (by (with_reducible repeat (first | apply Kd.R_alloc | apply Kd.R_drewN | apply Kd.R_drew)); exact HO2.out) hb); have n0_ := Aside0.mk (below_step (by repeat (first | (with_reducible first | exact HB.out | apply below_alloc | apply pw_below_drewN | apply below_drew1) | exact HB.out)) hb); clear HB HO2; have HB := n0_; have HO2 := n1_; clear n0_ n1_ ho hb) | (go_at_call 15; (with_reducible refine (quipuref13_Same.calls k2 A5 l.length l A2 c2 l true _ ?side1 ?side2 ?side3 ?side4 H3.out).mono ?_); (case side1 => exact (Kd.R_reads' HO5.out).2.2); (case side2 => exact Nat.le_refl _); (case side3 => exact (Kd.R_reads' HO2.out).2.2); (case side4 => exact (Kd.R_reads' HO2.out).2.1); rintro e w6 ⟨rfl, ⟨nd2, rfl⟩⟩) | (go_at_call 18; (with_reducible refine (quipulaw13_fixed.calls k3 true _ (Glob_below HG.out (by repeat (first | (with_reducible first | exact HB.out | apply below_alloc | apply pw_below_drewN | apply below_drew1) | exact HB.out))) H4.out).mono ?_); rintro e w7 ⟨rfl, hb⟩; have n0_ := Aside0.mk (below_step (by repeat (first | (with_reducible first | exact HB.out | apply below_alloc | apply pw_below_drewN | apply below_drew1) | exact HB.out)) hb); clear HB; have HB := n0_; clear n0_ hb))
      go_ret
      exact ⟨rfl, (by repeat (first | (with_reducible first | exact HB.out | apply below_alloc | apply pw_below_drewN | apply below_drew1) | exact HB.out))⟩
    | succ gk' =>
      have hlt : i < l.length := by have := HI.out; omega
      have hlt' : i < (turned overT l i).length := by rw [turned_len]; exact hlt
      have HT := Aside0.mk (turned_step overT l i hlt)
      obtain ⟨g, cap, eg, gb, gl, _⟩ := Kd.R_form HO.out (by omega)
      have eA : A1 = some ⟨g, 0, none⟩ := by injection eg
      subst eA
      clear eg
      have GW := Aside0.mk (HO.out.1 g rfl)
      have hd : decide ((i : Int) < (l.length : Int)) = true := decide_eq_true (by omega)
      have hd2 : decide (i < l.length) = true := decide_eq_true hlt
      have p1 : 0 ≤ (i : Int) := by omega
      have q1 : (i : Int) < (l.length : Int) := by omega
      clear hlt hlt' gb gl
      obtain ⟨ce, hcl, hM, hcc, hfr⟩ := Kd.R_elem HO.out z32 (i : Int) p1 q1
      obtain rfl := k32_openM hM
      have hx0 := hcc 0 _ rfl
      have hx1 := hcc 1 _ rfl
      have hx2 := hcc 2 _ rfl
      (try simp only [show (k32).sz = 3 from rfl, Nat.mul_one, Nat.add_zero, Int.toNat_natCast] at hx0 hx1 hx2)
      have hf0 := hfr 0
      have hf1 := hfr 1
      have hf2 := hfr 2
      (try simp only [show (k32).sz = 3 from rfl, Nat.mul_one, Nat.add_zero, Int.toNat_natCast] at hf0 hf1 hf2)
      have HS := Kd.R_seg HO.out (i : Int) p1 q1 (seg := [.int .i64 (-8), .int .i64 0, .string ⟨#[]⟩]) (j := 0) hcl hcc (show 3 ≤ 3 from by decide) (x' := (⟨-8, 0, ⟨#[]⟩⟩ : S32)) (k32_mkM _ _ _ (⟨-8, 0, ⟨#[]⟩⟩ : S32)) (fun _ hk => hk)
      clear hcl hcc hfr hM
      replace p1 := eq_true p1
      replace q1 := eq_true q1
      have HS2 := Aside0.mk (R_far3 HO2.out g (fun k_ hk_ => Nat.ne_of_gt (Nat.lt_of_lt_of_le GW.out.2 hk_)) ((i : Int).toNat * 3) ((i : Int).toNat * 3 + 1) ((i : Int).toNat * 3 + 2) (.int .i64 (-8)) (.int .i64 0) (.string ⟨#[]⟩))
      have HS3 := Aside0.mk (below_set (j := (i : Int).toNat * 3 + 2) (v := .string ⟨#[]⟩) (below_set (j := (i : Int).toNat * 3 + 1) (v := .int .i64 0) (below_set (j := (i : Int).toNat * 3) (v := .int .i64 (-8)) (HB.out) GW.out.1) GW.out.1) GW.out.1)
      go_wp2_with (first | ((with_reducible refine gate_store (t := 32) (p := 38) rfl ?_); refine store_event (t := 32) (p := 38) (v := ?vo_w12) (w1 := (((wr.setCell ⟨g, (i : Int).toNat * 3, none⟩ (.int .i64 (-8))).setCell ⟨g, (i : Int).toNat * 3 + 1, none⟩ (.int .i64 0)).setCell ⟨g, (i : Int).toNat * 3 + 2, none⟩ (.string ⟨#[]⟩))) ?hg ?ho ?hn ?hr ?_; (case ho => rfl); (case hg => rfl); (case hn => rfl); (case hr => first | (go_simp; done) | (go_simp; rfl)); intro w12 hw; have n0_ := Aside0.mk (show Kd.R k32 32 w12 w.heap.size (fun k_ => w.heap.size ≤ k_ ∧ k_ < w1.heap.size) (.slice (some ⟨g, 0, none⟩) l.length c1) ((turned overT l i).set (i : Int).toNat (⟨-8, 0, ⟨#[]⟩⟩ : S32)) from by rw [hw]; exact HS.1); have n1_ := Aside0.mk ((by rw [hw]; exact HS3.out : Below w.heap.size w w12)); have n2_ := Aside0.mk (show Kd.R k32 32 w12 w1.heap.size (fun k_ => w1.heap.size ≤ k_) (.slice A2 l.length c2) l from by rw [hw]; exact HS2.out); clear HS; clear HO; clear HO2; clear HB; have HO := n0_; have HB := n1_; have HO2 := n2_; clear n0_ n1_ n2_ hw))
      go_roundg gk'
      case measure => omega
      case rel => exact ⟨i + 1, by first | (with_reducible rfl) | (have := HI.out; have := HL.out; congr 1; unfold wrap64; omega), ⟨by have := HI.out; omega⟩, ⟨by rw [HT.out]; have h_ := HO.out; rw [Int.toNat_natCast] at h_; exact h_⟩, HO2, HB⟩
end Go.Proofs.Ytieipeigjhicfaa.Q
