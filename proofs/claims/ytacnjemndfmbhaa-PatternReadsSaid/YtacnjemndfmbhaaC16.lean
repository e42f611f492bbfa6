import Derived.Deep.CutBlock
import Derived.Test.YtacnjemndfmbhaaC13
import Derived.Test.YtacnjemndfmbhaaC15
namespace Go.Proofs.Ytacnjemndfmbhaa
open Go.RowKit
theorem aP70 {p : Prop} (h : p := by
    clear e a0 b0 b1 d q0 q1
    go_wp2_with (first | (go_at_call 60; (with_reducible refine (rprint_calls L.A L.c x.p _ (Kd.C_below HR.out.r.p HQ.out.below) HR.out.r.pc HR.out.p).mono ?_); rintro e w1 ⟨rfl, hb⟩; have nq := aMk (HQ.out.step hb); clear HQ hb; have HQ := nq; clear nq; obtain ⟨c0, c1, c2, c3, c4, c5, c6, c7, c8, c9, c10, c11⟩ := sub_at HQ.out.box) | (go_at_call 60; (with_reducible refine (rprint_calls L.B L.d x.s _ (Kd.C_below HR.out.r.s HQ.out.below) HR.out.r.sc HR.out.s).mono ?_); rintro e w1 ⟨rfl, hb⟩; have nq := aMk (HQ.out.step hb); clear HQ hb; have HQ := nq; clear nq; obtain ⟨c0, c1, c2, c3, c4, c5, c6, c7, c8, c9, c10, c11⟩ := sub_at HQ.out.box) | (go_at_call 58; (with_reducible refine (rdigits_calls L x (wideS x) _ HFI.out HX.out.wide0 HX.out.wide1).mono ?_); rintro e w1 ⟨rfl, hb⟩; have nq := aMk (HQ.out.step hb); clear HQ hb; have HQ := nq; clear nq; obtain ⟨c0, c1, c2, c3, c4, c5, c6, c7, c8, c9, c10, c11⟩ := sub_at HQ.out.box))
    go_ret
    exact ⟨ret_str HT0.out, HQ.out.below⟩) : p := h
theorem aP140 {p : Prop} (h : p := by first | exact NP.out | exact NP.out.drew1 | exact NP.out.drewN _) : p := h
theorem aP69 {p : Prop} (h : p := by exact bodyPost_ret (results_ctt results28 _ _ w.heap.size 24 (subC ⟨A, c, none, 0⟩ yn) (0, 0) _ rfl (setRow_heap _ _ _ _ _ _ KR.out) Try.underlying24 rfl info24) rfl (doneR_none HN.out (below_setRow KL.out (Nat.le_refl _)))) : p := h
theorem aP65 {p : Prop} (h : p := by
    go_wp2
    repeat (go_quiet (fail); try go_wp2)
    go_roundg d
    case measure => omega
    case rel => exact ⟨j + 1, by first | (with_reducible rfl) | rfl, ⟨by have := HI.out; omega⟩, HN, ⟨by first | exact HO.out | exact HO.out.step (pw_below_drewN (Below.refl _ _) _)⟩, ⟨by first | exact HF.out | exact HF.out.drewN _⟩⟩) : p := h
theorem aP66 {p : Prop} (h : p := by
    go_wp2
    repeat (go_quiet (fail); try go_wp2_with (first | ((with_reducible refine gate_dst (N := 127) rfl ?_); refine wpList_load_row rfl 24 (.tmp 5) rfl w.heap.size rfl 24 (subC L h) (0, 0) _ (by first | exact HF.out | exact HF.out.drew1 | exact HF.out.drewN _ : FW w _ g L h).box Try.underlying24 rfl info24 ?_) | ((with_reducible refine gate_store (t := 24) (p := 6) rfl ?_); refine wpList_store_row rfl 24 (.tmp 6) (.tmp 127) rfl g (subC L h) rfl rfl 24 (subC Lz zeroSb2) (by first | exact HF.out | exact HF.out.drew1 | exact HF.out.drewN _ : FW w _ g L h).res info24 rfl (by simp [Value.oneCell']) ?_)))
    exact bodyPost_ret (results_ctt results50 _ _ g 24 (subC L h) (0, 0) _ rfl (setRow_heap _ _ _ _ _ _ (by first | exact HF.out | exact HF.out.drew1 | exact HF.out.drewN _ : FW w _ g L h).res) Try.underlying24 rfl info24) rfl (retF_none HN.out ((by first | exact HF.out | exact HF.out.drew1 | exact HF.out.drewN _ : FW w _ g L h).fin _))) : p := h
theorem aP67 {p : Prop} (h : p := by
    go_wp2_with (first | (go_at_call 74; (with_reducible refine (rrun_calls B 35 0 _ (by have := HLN.out; omega) (by have := HAZ.out; omega) (by have := HAZ.out; omega)).mono ?_); rw [HA.out]; rintro e w6 ⟨rfl, hb⟩; have nf := aMk (HF.out.step hb); have no := aMk (HO.out.step hb); clear HF HO hb; have HF := nf; have HO := no; clear nf no) | (go_at_call 74; (with_reducible refine (rrun_calls B 48 a _ (by have := HLN.out; omega) (by have := HAZ.out; omega) (by have := HAZ.out; omega)).mono ?_); rw [HB.out]; rintro e w6 ⟨rfl, hb⟩; have nf := aMk (HF.out.step hb); have no := aMk (HO.out.step hb); clear HF HO hb; have HF := nf; have HO := no; clear nf no))
    go_meet
    case rel => exact ⟨by rw [HV.out], HO, HF⟩) : p := h
theorem aP68 {p : Prop} (h : p := by
    go_wp2
    go_roundg d
    case measure => omega
    case rel => exact ⟨q + 1, by first | (with_reducible rfl) | rfl, ⟨by have := HI.out; omega⟩, HN, ⟨by first | exact HF.out | exact HF.out.drew1 | exact HF.out.drewN _⟩⟩) : p := h
end Go.Proofs.Ytacnjemndfmbhaa
section
namespace Go.Proofs.Ytacnjemndfmbhaa.Q
open Go.RowKit Go.Proofs.Ytacnjemndfmbhaa.A Go.Proofs.Ytacnjemndfmbhaa.R1 Go.Proofs.YtacnjemndfmbhaaW.PrintWords Go.Proofs.YtacnjemndfmbhaaW.PrintLast Go.Proofs.YtacnjemndfmbhaaW.PrintMore
set_option linter.unusedVariables false
set_option linter.unusedSimpArgs false
theorem FW.grownB {w0 w w1 : World} {g : Nat} {L : Sl} {x : Sb} (h : FW w0 w g L x) {b : Nat} {v : Value} {ok : Nat → Prop} {G : List Int} (hv : Kd.R (Kd.int .i64) 3 w b ok v G) (hb : w0.heap.size ≤ b) (hg : w.grownBy w1 v.ownBlock) : FW w0 w1 g L x := by
 obtain ⟨inner, ho⟩ := Kd.R_own hv
 exact ⟨blk_grown h.box hg (Kd.R_ne hv h.box (by decide)), blk_grown h.res hg (Kd.R_ne hv h.res (by decide)), h.below.grown hg h.below.size (fun k hk => Nat.le_trans hb (own_base ho k hk)), h.lt⟩
theorem FW.grownA {w0 w w1 : World} {g : Nat} {L : Sl} {x : Sb} (h : FW w0 w g L x) {A : Option Addr} {c : Nat} {G : List Int} (hv : RowI w w0.heap.size A c G) (hg : w.grownBy w1 (Value.slice A G.length c).ownBlock) : FW w0 w1 g L x := h.grownB hv (Nat.le_refl _) hg
theorem FW.grown0 {w0 w w1 : World} {g : Nat} {L : Sl} {x : Sb} (h : FW w0 w g L x) (hb : Below w0.heap.size w0 w1) (hg : w.grownBy w1 none) : FW w0 w1 g L x :=
 ⟨blk_grown h.box hg (by simp), blk_grown h.res hg (by simp), hb, h.lt⟩
theorem retF_none {L : Sl} {w w' : World} {r : Option (Int × Sb)} {y : Sb} {q : Int} (hr : r = none) (hb : Below w.heap.size w w') : RetF L w r (.returned (.tuple #[subV L y, .int .i64 q, .bool false])) w' := by
 subst hr
 exact ⟨hb, y, q, rfl⟩
theorem rowF_in (r : ByteArray) : ∀ (d : Nat) (i : Int) (C : List Int) (B : ByteArray), (∀ x ∈ C, 0 ≤ x ∧ x ≤ (B.size : Int)) → ∀ x ∈ (rowF r d i C B).1, 0 ≤ x ∧ x ≤ ((rowF r d i C B).2.size : Int)
 | 0, i, C, B, h => h
 | d + 1, i, C, B, h => by
  unfold rowF
  split
  ·refine rowF_in r d _ _ _ (fun x hx => ?_)
   rcases List.mem_append.mp hx with hx | hx
   ·exact h x hx
   ·obtain rfl := List.mem_singleton.mp hx
    omega
  ·refine rowF_in r d _ _ _ (fun x hx => ?_)
   have := h x hx
   rw [size_app]
   omega
theorem ne324 : ∀ q, q ∈ (3 : Nat) :: (Kd.int .i64).E → q ≠ 24 := by
 intro q hq
 have : q = 3 := by simpa [Kd.int, Kd.scalar] using hq
 rw [this]; decide
theorem RowI.set24 {w : World} {base g : Nat} {A : Option Addr} {c : Nat} {G : List Int} {cs : Array Value} (h : RowI w base A c G) (hb : w.heap[g]? = some (.cells cs 24 (0, 0))) (i : Nat) (v : Value) : RowI (w.setCell ⟨g, i, none⟩ v) base A c G := Kd.R_set h hb ne324 i v
theorem len2 {C : List Int} (h : C.length ≤ 2) : C = [] ∨ (∃ x, C = [x]) ∨ ∃ x y, C = [x, y] := by
 match C, h with
 | [], _ => exact .inl rfl
 | [x], _ => exact .inr (.inl ⟨x, rfl⟩)
 | [x, y], _ => exact .inr (.inr ⟨x, y, rfl⟩)
theorem results50 : Try.f50.results = #[.cell 6 24, .tmp 7, .tmp 8] := by kernel_rfl
set_option maxHeartbeats 16000000 in
set_option maxRecDepth 100000 in
theorem places_walk (L : Sl) (s : ByteArray) (p : Int) (h : Sb) (w : World) (h0 : 0 ≤ p) (hp : p ≤ s.size) (hs : s.size ≤ 128) : Calls Try.prog 50 #[.string s, .int .i64 p, subV L h] w (RetF L w (placesF s p h)) := by
 have HP := aMk (show 0 ≤ p ∧ p ≤ s.size ∧ s.size ≤ 128 from ⟨h0, hp, hs⟩)
 obtain ⟨E, hE⟩ : ∃ E, endN s p = E := ⟨_, rfl⟩
 have HR := aMk (end_range s p hp)
 rw [hE] at HR
 obtain ⟨r, hr⟩ : ∃ r, s.extract p.toNat E.toNat = r := ⟨_, rfl⟩
 have HPL := aMk (places_doc s p h h0 hp r (by rw [hE, hr]))
 rw [hE] at HPL
 have HE0 := aMk (show endF s ((s.size : Int) - p).toNat p = E from hE)
 have HRS := aMk (show (r.size : Int) = E - p by rw [← hr, ByteArray.size_extract]; have := HR.out; omega)
 clear h0 hs hp hE
 go_enter Try.func50, Try.ntmps50
 go_upto_block 0 with (first | ((with_reducible refine gate_dst (N := 5) rfl ?_); refine box_event ?hg (N := 5) ?hd (cs := subC L h) (t := 24) ?hr ?_; (case hd => rfl); (case hg => rfl); (case hr => first | (go_simp; done) | (go_simp; rfl)); intro gb hgb w1 hbox hbb; subst hgb; have HQ : Aside0 (HW w w1 L h) := ⟨⟨hbox, hbb⟩⟩; clear hbox hbb) | ((with_reducible refine gate_dst (N := 6) rfl ?_); refine box_event ?hg (N := 6) ?hd (cs := subC Lz zeroSb2) (t := 24) ?hr ?_; (case hd => rfl); (case hg => rfl); (case hr => first | (go_simp; done) | (go_simp; rfl)); intro g hgb w2 hbox hbb; have HF : Aside0 (FW w w2 g L h) := ⟨⟨blk_below HQ.out.box hbb, hbox, below_step HQ.out.below hbb, by have := blk_lt HQ.out.box; omega⟩⟩; clear hbox hbb hgb HQ))
 rename_i K hK
 go_cut [9] (fun v wc => v = .int .i64 E ∧ Aside0 (FW w wc g L h))
 case first =>
  go_wp2_with (fail)
  go_loopg [9] ((s.size : Int) - p).toNat (fun gk v9 wr => ∃ (q : Int), v9 = .int .i64 q ∧ Aside0 (p ≤ q ∧ (gk : Int) = s.size - q) ∧ Aside0 (endF s gk q = E) ∧ Aside0 (FW w wr g L h))
  case atStart => exact ⟨p, rfl, ⟨by have := HP.out; omega⟩, HE0, HF⟩
  case round =>
   clear HE0 HF
   obtain ⟨q, rfl, HI, HE, HF⟩ := hrel
   have p5 : (0 ≤ q) = True := eq_true (aP134)
   have hx5 := bt_at s q
   have wr1 : IntKind.i64.wrap (q + 1) = q + 1 := IntWalk.i64_in _ (aP134)
   cases gk with
   | zero =>
    have hi : q = E := HE.out
    subst hi
    have d0 : decide (q < (s.size : Int)) = false := dFa (by have := HI.out; omega)
    go_wp2
    go_meet
    case rel => exact ⟨rfl, HF⟩
   | succ d =>
    have q5 : (q < (s.size : Int)) = True := eq_true (by have := HI.out; omega)
    have c3b : decide (q < (s.size : Int)) = true := dTr (by have := HI.out; omega)
    have HU := aMk (show (if plC (bt s q) = true then endF s d (q + 1) else q) = E from HE.out)
    clear HE
    cases k1 : (bt s q == 35) with
    | true =>
     have HN := aMk (show endF s d (q + 1) = E by rw [← HU.out, if_pos (by unfold plC; rw [k1]; rfl)])
     exact aP68
    | false =>
     cases k2 : (bt s q == 48) with
     | true =>
      have HN := aMk (show endF s d (q + 1) = E by rw [← HU.out, if_pos (by unfold plC; rw [k1, k2]; rfl)])
      exact aP68
     | false =>
      cases k3 : (bt s q == 44) with
      | true =>
       have HN := aMk (show endF s d (q + 1) = E by rw [← HU.out, if_pos (by unfold plC; rw [k1, k2, k3]; rfl)])
       exact aP68
      | false =>
       have hi : q = E := by rw [← HU.out, if_neg (by unfold plC; rw [k1, k2, k3]; decide)]
       subst hi
       go_wp2
       go_meet
       case rel => exact ⟨rfl, HF⟩
 case rest =>
  obtain ⟨w3, rfl⟩ : ∃ w3 : World, w3 = wc := ⟨_, rfl⟩
  obtain ⟨rfl, HF'⟩ := hcut
  clear HF
  have HF := HF'
  clear HF'
  refine hK _ _ ?_
  clear hK K HE0
  have b1 : 0 ≤ p := HP.out.1
  have b2 : p ≤ E := HR.out.1
  have b3 : E ≤ (s.size : Int) := HR.out.2
  have b4 : p.toNat ≤ E.toNat := by omega
  have b5 : E.toNat ≤ s.size := by omega
  have b6 : 0 ≤ E := by omega
  obtain ⟨RW, hrw⟩ : ∃ RW, rowF r (E - p).toNat 0 [] ⟨#[]⟩ = RW := ⟨_, rfl⟩
  rw [hrw] at HPL
  have HRW := aMk hrw
  have HLB := aMk (show ∀ x ∈ RW.1, 0 ≤ x ∧ x ≤ (RW.2.size : Int) by rw [← hrw]; exact rowF_in r _ 0 [] ⟨#[]⟩ (fun x hx => by simp at hx))
  have HZ := aMk (show (r.size : Int) ≤ 128 by have := HRS.out; have := HR.out; have := HP.out; omega)
  clear hrw
  go_upto_block 2 with (first | ((with_reducible refine gate_dst (N := 45) rfl ?_); refine Kd.R_lit (Kd.int .i64) w.heap.size 3 ?hg (N := 45) ?hd (w0 := w) (xs := ([] : List Int)) (inner := []) (ok := fun _ => True) (okp := fun _ => True) ?hr ?hp (fun _ hk => hk) trivial HF.out.below HF.out.below.size (by simp) ?_; (case hd => rfl); (case hg => rfl); (case hr => first | (go_simp; done) | (go_simp; rfl)); (case hp => exact (Reps.none _ _)); intro v1 w4 ho hb hg hnew_; clear hnew_; have nf := aMk (HF.out.grown0 hb hg); clear HF; have HF := nf; clear nf hg; have HWR := aMk hb.size; clear hb; obtain ⟨A, c, ev⟩ := Kd.R_slice ho; subst ev; have HO := aMk (show RowI w4 w.heap.size A c [] from ho); clear ho))
  rename_i K hK
  go_cut [11, 12, 13] (fun v11 v12 v13 wc => ∃ (A : Option Addr) (c : Nat), v11 = .slice A RW.1.length c ∧ v12 = .string RW.2 ∧ v13 = .int .i64 (r.size : Int) ∧ Aside0 (RW.1.length ≤ 128 ∧ RW.2.size ≤ 128) ∧ Aside0 (RowI wc w.heap.size A c RW.1) ∧ Aside0 (FW w wc g L h))
  case first =>
   go_wp2_with (fail)
   go_loopg [11, 12, 13] (E - p).toNat (fun gk v11 v12 v13 wr => ∃ (A : Option Addr) (c : Nat) (C : List Int) (B : ByteArray) (i : Int), v11 = .slice A C.length c ∧ v12 = .string B ∧ v13 = .int .i64 i ∧ Aside0 (0 ≤ i ∧ i + (gk : Int) = r.size ∧ (C.length : Int) ≤ i ∧ (B.size : Int) ≤ i) ∧ Aside0 (rowF r gk i C B = RW) ∧ Aside0 (w.heap.size ≤ wr.heap.size) ∧ Aside0 (RowI wr w.heap.size A c C) ∧ Aside0 (FW w wr g L h))
   case atStart => exact ⟨A, c, [], ⟨#[]⟩, 0, rfl, rfl, rfl, ⟨Int.le_refl _, by have := HRS.out; have := HR.out; omega, Int.le_refl _, Int.le_refl _⟩, HRW, HWR, HO, HF⟩
   case round =>
    clear HRW HF HO HWR
    obtain ⟨A, c, C, B, i, rfl, rfl, rfl, HI, HE, HWR, HO, HF⟩ := hrel
    cases gk with
    | zero =>
     have hi : i = (r.size : Int) := by have := HI.out; omega
     have HEQ := aMk (show RW = (C, B) from HE.out.symm)
     have d0 : decide (i < (r.size : Int)) = false := dFa (by omega)
     go_wp2
     go_meet
     case rel => exact ⟨A, c, by rw [HEQ.out], by rw [HEQ.out], by rw [hi], ⟨by rw [HEQ.out]; have := HI.out; have := HZ.out; show C.length ≤ 128 ∧ B.size ≤ 128; omega⟩, ⟨by rw [HEQ.out]; exact HO.out⟩, HF⟩
    | succ d =>
     have b0 : 0 ≤ i := HI.out.1
     have q0 := eq_true b0
     have b2 : i < (r.size : Int) := by have := HI.out; omega
     have q1 := eq_true b2
     have d0 : decide (i < (r.size : Int)) = true := dTr b2
     have hx := bt_at r i
     have wr1 : IntKind.i64.wrap (i + 1) = i + 1 := IntWalk.i64_in _ (by have := HZ.out; omega)
     have HU := aMk (show (if bt r i = 44 then rowF r d (i + 1) (C ++ [(B.size : Int)]) B else rowF r d (i + 1) C (B ++ r.extract i.toNat (i + 1).toNat)) = RW from HE.out)
     clear HE
     cases k1 : (bt r i == 44) with
     | true =>
      have HN := aMk (show rowF r d (i + 1) (C ++ [(B.size : Int)]) B = RW by rw [← HU.out, if_pos (beq_iff_eq.mp k1)])
      go_wp2_with (first | ((with_reducible refine gate_builtin (b := .append) (xs := #[.tmp 56, .tmp 59]) rfl ?_); at_builtin; refine Kd.R_append (Kd.int .i64) w.heap.size rfl (.tmp 56) (.tmp 59) 76 3 (.int .i64 0) 8 rfl Try.underlying76 infoI3 rfl (by decide) (by omega) (.slice A C.length c) C (B.size : Int) [.int .i64 (B.size : Int)] (fun _ => True) (fun _ => False) rfl rfl ?aP (fun _ hk => hk.elim) ?aF ?aO (Below.refl _ _) ?aS ?aL ?_; (case aP => exact rfl); (case aF => exact (fun _ _ => trivial)); (case aO => exact (by (with_reducible repeat (first | apply Kd.R_alloc | apply Kd.R_drewN | apply Kd.R_drew)); exact HO.out)); (case aS => exact HWR.out); (case aL => have := HI.out; have := HZ.out; omega); intro v2 w6 ho hb hg hat; have nf := aMk (HF.out.grownA HO.out hg); have HWN := aMk (Nat.le_trans HWR.out hb.size); clear HWR HF HO hb hg hat; have HWR := HWN; have HF := nf; clear HWN nf; obtain ⟨A2, c2_, ev⟩ := Kd.R_slice ho; subst ev; have HO := aMk (show RowI w6 w.heap.size A2 c2_ (C ++ [(B.size : Int)]) from ho); clear ho))
      go_roundg d
      case measure => omega
      case rel => exact ⟨A2, c2_, C ++ [(B.size : Int)], B, i + 1, by simp, aP92, aP92, ⟨by have := HI.out; rw [List.length_append]; simp; omega⟩, HN, HWR, HO, HF⟩
     | false =>
      have HN := aMk (show rowF r d (i + 1) C (B ++ r.extract i.toNat (i + 1).toNat) = RW by rw [← HU.out, if_neg (beq_eq_false_iff_ne.mp k1)])
      have g1 : i ≤ i + 1 := by omega
      have g2 : i + 1 ≤ (r.size : Int) := by omega
      have g3 : i.toNat ≤ (i + 1).toNat := by omega
      have g4 : (i + 1).toNat ≤ r.size := by omega
      have g5 : 0 ≤ i + 1 := by omega
      have hX : (r.extract i.toNat (i + 1).toNat).size = 1 := aP99
      obtain ⟨X, hXe⟩ : ∃ X, r.extract i.toNat (i + 1).toNat = X := ⟨_, rfl⟩
      rw [hXe] at hX HN
      have HXS := aMk hX
      have hz := eq_false (Nat.not_lt.2 (show B.size + X.size ≤ 9223372036854775807 by have := HI.out; have := HZ.out; omega))
      clear hX
      go_wp2
      go_roundg d
      case measure => omega
      case rel => exact ⟨A, c, C, B ++ X, i + 1, aP92, aP92, aP92, ⟨by have := HI.out; have := HXS.out; rw [size_app]; omega⟩, HN, HWR, HO, HF⟩
  case rest =>
   obtain ⟨w5, rfl⟩ : ∃ w5 : World, w5 = wc := ⟨_, rfl⟩
   obtain ⟨A2, c2, rfl, rfl, rfl, HLN, HO', HF'⟩ := hcut
   clear HF HO HWR
   have HF := HF'
   have HO := HO'
   clear HF' HO'
   refine hK _ _ ?_
   clear hK K HRW
   clear b1 b2 b3 b4 b5 b6
   obtain ⟨C, B⟩ := RW
   replace HPL : Aside0 (placesF s p h = (decP C B h).map (fun y => (E, y))) := HPL
   replace HLB : Aside0 (∀ x ∈ C, 0 ≤ x ∧ x ≤ (B.size : Int)) := HLB
   replace HLN : Aside0 (C.length ≤ 128 ∧ B.size ≤ 128) := HLN
   replace HO : Aside0 (RowI w5 w.heap.size A2 c2 C) := HO
   obtain ⟨a, ha⟩ : ∃ a, runN B 35 0 = a := ⟨_, rfl⟩
   obtain ⟨z, hz⟩ : ∃ z, runN B 48 a = z := ⟨_, rfl⟩
   have HAZ := aMk (show 0 ≤ a ∧ a ≤ 128 ∧ 0 ≤ z ∧ z ≤ 128 by
    have q1 := runF_range B 35 ((B.size : Int) - 0).toNat 0
    have q2 := runF_range B 48 ((B.size : Int) - a).toNat a
    change 0 ≤ runN B 35 0 ∧ (0 ≤ (B.size : Int) → 0 + runN B 35 0 ≤ (B.size : Int)) at q1
    change 0 ≤ runN B 48 a ∧ (a ≤ (B.size : Int) → a + runN B 48 a ≤ (B.size : Int)) at q2
    rw [ha] at q1
    rw [hz] at q2
    have := HLN.out
    omega)
   have HA := aMk ha
   have HB := aMk hz
   have HF1 := aMk (show fail1 C B = (((B.size : Int) == 0 || (a + z) != (B.size : Int)) || decide (2 < C.length)) by unfold fail1 zeroN; rw [ha, hz])
   have HZN := aMk (show zeroN B = z by unfold zeroN; rw [ha, hz])
   clear ha hz
   have wr2 : IntKind.i64.wrap (a + z) = a + z := IntWalk.i64_in _ (by have := HAZ.out; omega)
   show Code.wp _ _ _ _ _
   go_upto_region 14 with (first | (go_at_call 74; (with_reducible refine (rrun_calls B 35 0 _ (by have := HLN.out; omega) (by have := HAZ.out; omega) (by have := HAZ.out; omega)).mono ?_); rw [HA.out]; rintro e w6 ⟨rfl, hb⟩; have nf := aMk (HF.out.step hb); have no := aMk (HO.out.step hb); clear HF HO hb; have HF := nf; have HO := no; clear nf no) | (go_at_call 74; (with_reducible refine (rrun_calls B 48 a _ (by have := HLN.out; omega) (by have := HAZ.out; omega) (by have := HAZ.out; omega)).mono ?_); rw [HB.out]; rintro e w6 ⟨rfl, hb⟩; have nf := aMk (HF.out.step hb); have no := aMk (HO.out.step hb); clear HF HO hb; have HF := nf; have HO := no; clear nf no))
   rename_i K hK
   go_cut [88] (fun v wc => v = .bool (fail1 C B) ∧ Aside0 (RowI wc w.heap.size A2 c2 C) ∧ Aside0 (FW w wc g L h))
   case first =>
    cases f1 : ((B.size : Int) == 0) with
    | true =>
     have HV := aMk (show fail1 C B = true by rw [HF1.out, f1]; rfl)
     exact aP67
    | false =>
     cases f2 : (a + z != (B.size : Int)) with
     | true =>
      have HV := aMk (show fail1 C B = true by rw [HF1.out, f1, f2]; rfl)
      exact aP67
     | false =>
      have HV := aMk (show fail1 C B = decide (2 < (C.length : Int)) by rw [HF1.out, f1, f2, Bool.or_self, Bool.false_or]; exact decide_eq_decide.mpr (by omega))
      exact aP67
   case rest =>
    obtain ⟨w7, rfl⟩ : ∃ w7 : World, w7 = wc := ⟨_, rfl⟩
    obtain ⟨rfl, HO', HF'⟩ := hcut
    clear HF HO
    have HF := HF'
    have HO := HO'
    clear HF' HO'
    refine hK _ _ ?_
    clear hK K wr2
    show Code.wp _ _ _ _ _
    cases f1 : fail1 C B with
    | true =>
     have HN := aMk (show placesF s p h = none by rw [HPL.out]; unfold decP; rw [if_pos f1]; rfl)
     go_wp2_with (first | ((with_reducible refine gate_dst (N := 89) rfl ?_); refine wpList_load_row rfl 24 (.tmp 5) rfl w.heap.size rfl 24 (subC L h) (0, 0) _ HF.out.box Try.underlying24 rfl info24 ?_) | ((with_reducible refine gate_store (t := 24) (p := 6) rfl ?_); refine wpList_store_row rfl 24 (.tmp 6) (.tmp 89) rfl g (subC L h) rfl rfl 24 (subC Lz zeroSb2) HF.out.res info24 rfl (by simp [Value.oneCell']) ?_))
     exact bodyPost_ret (results_ctt results50 _ _ g 24 (subC L h) (0, 0) _ rfl (setRow_heap _ _ _ _ _ _ HF.out.res) Try.underlying24 rfl info24) rfl (retF_none HN.out (HF.out.fin _))
    | false =>
     obtain ⟨R, hR⟩ : ∃ R, badF C B.size C.length 0 = R := ⟨_, rfl⟩
     have HRR := aMk hR
     have HDP := aMk (show placesF s p h = (if R = true then none else some (setP C B h)).map (fun y => (E, y)) by rw [HPL.out]; unfold decP; rw [if_neg (by rw [f1]; decide), hR])
     have HL2 := aMk (show C.length ≤ 2 by
      unfold fail1 at f1
      rw [Bool.or_eq_false_iff] at f1
      have := of_decide_eq_false f1.2
      omega)
     clear hR f1 HPL HF1
     go_upto_block 4 with (fail)
     rename_i K hK
     go_cut [] (fun wc => Aside0 (R = false) ∧ Aside0 (RowI wc w.heap.size A2 c2 C) ∧ Aside0 (FW w wc g L h))
     case first =>
      go_wp2_with (fail)
      go_loopg [15] C.length (fun gk v15 wr => ∃ (j : Nat), v15 = .int .i64 (j : Int) ∧ Aside0 (j + gk = C.length) ∧ Aside0 (badF C B.size gk j = R) ∧ Aside0 (RowI wr w.heap.size A2 c2 C) ∧ Aside0 (FW w wr g L h))
      case atStart => exact ⟨0, rfl, ⟨by omega⟩, HRR, HO, HF⟩
      case round =>
       clear HRR HF HO
       obtain ⟨j, rfl, HI, HE, HO, HF⟩ := hrel
       cases gk with
       | zero =>
        have hr0 : R = false := HE.out.symm
        have d0 : decide ((j : Int) < (C.length : Int)) = false := dFa (by have := HI.out; omega)
        have d0n : decide (j < C.length) = false := dFa (by have := HI.out; omega)
        go_wp2
        go_meet
        case rel => exact ⟨⟨hr0⟩, HO, HF⟩
       | succ d =>
        have hjl : j < C.length := by have := HI.out; omega
        have j0 := eq_true (show 0 ≤ (j : Int) by omega)
        have j1 := eq_true (show (j : Int) < (C.length : Int) by omega)
        have d0 : decide ((j : Int) < (C.length : Int)) = true := dTr (by omega)
        have d0n : decide (j < C.length) = true := dTr (by omega)
        have j1n := eq_true (show j < C.length from hjl)
        have HU := aMk (show (badAt C B.size j || badF C B.size d ((j : Int) + 1)) = R from HE.out)
        clear HE
        obtain ⟨k, rfl, hk⟩ := HO.out.form (by omega)
        have xj := HO.out.at_ j hjl
        have wr1 : IntKind.i64.wrap ((j : Int) + 1) = (j : Int) + 1 := IntWalk.i64_in _ (by have := HLN.out; omega)
        have HJL := aMk hjl
        clear hjl
        cases k1 : (rd C j == 0) with
        | true =>
         have HN := aMk (show placesF s p h = none by rw [HDP.out, ← HU.out]; unfold badAt; rw [k1]; rfl)
         exact aP66
        | false =>
         cases k2 : (rd C j == (B.size : Int)) with
         | true =>
          have HN := aMk (show placesF s p h = none by rw [HDP.out, ← HU.out]; unfold badAt; rw [k1, k2]; rfl)
          exact aP66
         | false =>
          by_cases hj0 : j = 0
          ·have k3 : decide (0 < (j : Int)) = false := dFa (by omega)
           have k3n : decide (0 < j) = false := dFa (by omega)
           have HN := aMk (show badF C B.size d ((j : Int) + 1) = R by rw [← HU.out]; unfold badAt; rw [k1, k2, k3]; rfl)
           clear hj0
           exact aP65
          ·have k3 : decide (0 < (j : Int)) = true := dTr (by omega)
           have k3n : decide (0 < j) = true := dTr (by omega)
           obtain ⟨n, hn⟩ : ∃ n : Nat, j = n + 1 := ⟨j - 1, by omega⟩
           have hw3 : IntKind.i64.wrap ((j : Int) - 1) = (n : Int) := by rw [show (j : Int) - 1 = (n : Int) by omega]; exact IntWalk.i64_in _ (by have := HLN.out; have := HJL.out; omega)
           have n0 := eq_true (show 0 ≤ (n : Int) by omega)
           have n1 := eq_true (show (n : Int) < (C.length : Int) by have := HJL.out; omega)
           have n1n := eq_true (show n < C.length by have := HJL.out; omega)
           have xn := HO.out.at_ n (by have := HJL.out; omega)
           have hjn : (j : Int) - 1 = (n : Int) := by omega
           have HU2 := aMk (show ((rd C j == rd C n) || badF C B.size d ((j : Int) + 1)) = R by rw [← HU.out]; unfold badAt; rw [k1, k2, k3, hjn]; simp)
           clear hj0 hn hjn HU
           cases k4 : (rd C j == rd C n) with
           | true =>
            have HN := aMk (show placesF s p h = none by rw [HDP.out, ← HU2.out, k4]; rfl)
            exact aP66
           | false =>
            have HN := aMk (show badF C B.size d ((j : Int) + 1) = R by rw [← HU2.out, k4]; rfl)
            exact aP65
     case rest =>
      obtain ⟨w8, rfl⟩ : ∃ w8 : World, w8 = wc := ⟨_, rfl⟩
      obtain ⟨HRF, HO', HF'⟩ := hcut
      clear HF HO
      have HF := HF'
      have HO := HO'
      clear HF' HO'
      refine hK _ _ ?_
      clear hK K HRR
      have HS := aMk (show placesF s p h = some (E, setP C B h) by rw [HDP.out, if_neg (by rw [HRF.out]; decide)]; rfl)
      show Code.wp _ _ _ _ _
      have x2 : World.cell? _ ⟨w.heap.size, 2, none⟩ = some (.int .i64 h.im) := (blk_cell HF.out.box 2).trans rfl
      have z2 := blk_frozen HF.out.box 2
      have x5 : World.cell? _ ⟨w.heap.size, 5, none⟩ = some (.int .i64 h.pr) := (blk_cell HF.out.box 5).trans rfl
      have z5 := blk_frozen HF.out.box 5
      have x6 : World.cell? _ ⟨w.heap.size, 6, none⟩ = some (.int .i64 h.se) := (blk_cell HF.out.box 6).trans rfl
      have z6 := blk_frozen HF.out.box 6
      have zn : zeroN B = z := HZN.out
      rcases len2 HL2.out with rfl | ⟨x, rfl⟩ | ⟨x, y, rfl⟩
      ·have HS2 := aMk (show placesF s p h = some (E, {h with im := z}) by rw [HS.out]; unfold setP; rw [HZN.out]; rfl)
       go_wp2_with (first | ((with_reducible refine gate_dst (N := 155) rfl ?_); refine wpList_load_row rfl 24 (.tmp 5) rfl w.heap.size rfl 24 (subC L {h with im := z}) (0, 0) _ (HF.out.put (y := {h with im := z}) 2 (.int .i64 z) rfl).box Try.underlying24 rfl info24 ?_) | ((with_reducible refine gate_store (t := 24) (p := 6) rfl ?_); refine wpList_store_row rfl 24 (.tmp 6) (.tmp 155) rfl g (subC L {h with im := z}) rfl rfl 24 (subC Lz zeroSb2) (HF.out.put (y := {h with im := z}) 2 (.int .i64 z) rfl).res info24 rfl (by simp [Value.oneCell']) ?_))
       exact bodyPost_ret (results_ctt results50 _ _ g 24 (subC L {h with im := z}) (0, 0) _ rfl (setRow_heap _ _ _ _ _ _ (HF.out.put (y := {h with im := z}) 2 (.int .i64 z) rfl).res) Try.underlying24 rfl info24) rfl (retF_some HS2.out ((HF.out.put (y := {h with im := z}) 2 (.int .i64 z) rfl).fin _))
      ·have HS2 := aMk (show placesF s p h = some (E, {h with im := z, pr := (B.size : Int) - x}) by rw [HS.out]; unfold setP; rw [HZN.out]; rfl)
       have hxr := HLB.out x (by simp)
       have hw5 : IntKind.i64.wrap ((B.size : Int) - x) = (B.size : Int) - x := IntWalk.i64_in _ (by have := HLN.out; omega)
       clear hxr
       obtain ⟨k, rfl, hk⟩ := HO.out.form (by simp)
       have y0 : World.cell? _ ⟨k, 0, none⟩ = some (.int .i64 x) := HO.out.at_ 0 (by simp)
       have y0' : World.cell? _ ⟨k, 0, none⟩ = some (.int .i64 x) := (HO.out.set24 HF.out.box 2 (.int .i64 z)).at_ 0 (by simp)
       go_wp2_with (first | ((with_reducible refine gate_dst (N := 155) rfl ?_); refine wpList_load_row rfl 24 (.tmp 5) rfl w.heap.size rfl 24 (subC L {h with im := z, pr := (B.size : Int) - x}) (0, 0) _ ((HF.out.put (y := {h with im := z}) 2 (.int .i64 z) rfl).put (y := {h with im := z, pr := (B.size : Int) - x}) 5 (.int .i64 ((B.size : Int) - x)) rfl).box Try.underlying24 rfl info24 ?_) | ((with_reducible refine gate_store (t := 24) (p := 6) rfl ?_); refine wpList_store_row rfl 24 (.tmp 6) (.tmp 155) rfl g (subC L {h with im := z, pr := (B.size : Int) - x}) rfl rfl 24 (subC Lz zeroSb2) ((HF.out.put (y := {h with im := z}) 2 (.int .i64 z) rfl).put (y := {h with im := z, pr := (B.size : Int) - x}) 5 (.int .i64 ((B.size : Int) - x)) rfl).res info24 rfl (by simp [Value.oneCell']) ?_))
       exact bodyPost_ret (results_ctt results50 _ _ g 24 (subC L {h with im := z, pr := (B.size : Int) - x}) (0, 0) _ rfl (setRow_heap _ _ _ _ _ _ ((HF.out.put (y := {h with im := z}) 2 (.int .i64 z) rfl).put (y := {h with im := z, pr := (B.size : Int) - x}) 5 (.int .i64 ((B.size : Int) - x)) rfl).res) Try.underlying24 rfl info24) rfl (retF_some HS2.out (((HF.out.put (y := {h with im := z}) 2 (.int .i64 z) rfl).put (y := {h with im := z, pr := (B.size : Int) - x}) 5 (.int .i64 ((B.size : Int) - x)) rfl).fin _))
      ·have HS2 := aMk (show placesF s p h = some (E, {h with im := z, pr := (B.size : Int) - y, se := y - x}) by rw [HS.out]; unfold setP; rw [HZN.out]; rfl)
       have hxr := HLB.out x (by simp)
       have hyr := HLB.out y (by simp)
       have hw5 : IntKind.i64.wrap ((B.size : Int) - y) = (B.size : Int) - y := IntWalk.i64_in _ (by have := HLN.out; omega)
       have hw6 : IntKind.i64.wrap (y - x) = y - x := IntWalk.i64_in _ (by have := HLN.out; omega)
       clear hxr hyr
       obtain ⟨k, rfl, hk⟩ := HO.out.form (by simp)
       have y1' : World.cell? _ ⟨k, 1, none⟩ = some (.int .i64 y) := (HO.out.set24 HF.out.box 2 (.int .i64 z)).at_ 1 (by simp)
       go_wp2_with (fail)
       have HG := aMk ((HF.out.put (y := {h with im := z}) 2 (.int .i64 z) rfl).put (y := {h with im := z, pr := (B.size : Int) - y}) 5 (.int .i64 ((B.size : Int) - y)) rfl)
       have HO2 := aMk ((HO.out.set24 HF.out.box 2 (.int .i64 z)).set24 (HF.out.put (y := {h with im := z}) 2 (.int .i64 z) rfl).box 5 (.int .i64 ((B.size : Int) - y)))
       have z6' := blk_frozen HG.out.box 6
       have x6' : World.cell? _ ⟨w.heap.size, 6, none⟩ = some (.int .i64 h.se) := (blk_cell HG.out.box 6).trans rfl
       go_region_held3 (fun w' => w'.cell? ⟨k, 1, none⟩ = some (.int .i64 y) ∧ w'.cell? ⟨k, 0, none⟩ = some (.int .i64 x))
        (first | exact ⟨HO2.out.at_ 1 (by simp), HO2.out.at_ 0 (by simp)⟩ | exact ⟨(HO2.out.step (below_drew1 (Below.refl _ _))).at_ 1 (by simp), (HO2.out.step (below_drew1 (Below.refl _ _))).at_ 0 (by simp)⟩ | exact ⟨((HO2.out.step (below_drew1 (Below.refl _ _))).set24 HG.out.drew1.box 6 (.int .i64 (y - x))).at_ 1 (by simp), ((HO2.out.step (below_drew1 (Below.refl _ _))).set24 HG.out.drew1.box 6 (.int .i64 (y - x))).at_ 0 (by simp)⟩ | exact ⟨(HO2.out.set24 HG.out.box 6 (.int .i64 (y - x))).at_ 1 (by simp), (HO2.out.set24 HG.out.box 6 (.int .i64 (y - x))).at_ 0 (by simp)⟩) (fail)
       have HG3 : Aside0 (FW w _ g L {h with im := z, pr := (B.size : Int) - y, se := y - x}) := ⟨HG.out.drew1.put (y := {h with im := z, pr := (B.size : Int) - y, se := y - x}) 6 (.int .i64 (y - x)) rfl⟩
       go_wp2_with (first | ((with_reducible refine gate_dst (N := 155) rfl ?_); refine wpList_load_row rfl 24 (.tmp 5) rfl w.heap.size rfl 24 (subC L {h with im := z, pr := (B.size : Int) - y, se := y - x}) (0, 0) _ HG3.out.box Try.underlying24 rfl info24 ?_) | ((with_reducible refine gate_store (t := 24) (p := 6) rfl ?_); refine wpList_store_row rfl 24 (.tmp 6) (.tmp 155) rfl g (subC L {h with im := z, pr := (B.size : Int) - y, se := y - x}) rfl rfl 24 (subC Lz zeroSb2) HG3.out.res info24 rfl (by simp [Value.oneCell']) ?_))
       exact bodyPost_ret (results_ctt results50 _ _ g 24 (subC L {h with im := z, pr := (B.size : Int) - y, se := y - x}) (0, 0) _ rfl (setRow_heap _ _ _ _ _ _ HG3.out.res) Try.underlying24 rfl info24) rfl (retF_some HS2.out (HG3.out.fin _))
end Go.Proofs.Ytacnjemndfmbhaa.Q
end
section
namespace Go.Proofs.Ytacnjemndfmbhaa.Q
open Go.RowKit Go.Proofs.Ytacnjemndfmbhaa.A Go.Proofs.YtacnjemndfmbhaaW.PrintWords Go.Proofs.YtacnjemndfmbhaaW.PrintLast Go.Proofs.YtacnjemndfmbhaaW.PrintMore
set_option linter.unusedVariables false
theorem rparse_calls (s : ByteArray) (w : World) (hs : s.size ≤ 1048576) : Calls Try.prog 49 #[.string s] w fun e w' => ∃ A c, e = .returned (.tuple #[.slice A (parseT s).1.length c, .int .i64 (parseT s).2]) ∧ (parseT s).1.length ≤ c ∧ RowIn w' w.heap.size (fun _ => True) A (parseT s).1 ∧ Below w.heap.size w w' := by
 refine (quipuref13_Parse.calls 30000000 s (parseT s).1 (parseT s).2 w (by rw [parseT_eq]; exact refParse_eq s hs _ (Nat.le_refl _))).mono ?_
 rintro e w' ⟨v, he, hr, hb⟩
 obtain ⟨A, c, hv⟩ := Kd.R_slice hr
 subst hv
 exact ⟨A, c, he, (Kd.R_reads' hr).2.1, ⟨c, hr⟩, hb⟩
end Go.Proofs.Ytacnjemndfmbhaa.Q
end
section
namespace Go.Proofs.Ytacnjemndfmbhaa.Q
open Go.RowKit Go.Proofs.Ytacnjemndfmbhaa.A Go.Proofs.YtacnjemndfmbhaaW.PrintWords Go.Proofs.YtacnjemndfmbhaaW.PrintLast Go.Proofs.YtacnjemndfmbhaaW.PrintMore
set_option linter.unusedVariables false
set_option linter.unusedSimpArgs false
set_option linter.unusedSectionVars false
structure GW (w0 w : World) (g : Nat) (L : Sl) (x : Sb) : Prop where
 box : w.heap[g]? = some (.cells (subC L x) 24 (0, 0))
 res : w.heap[w0.heap.size]? = some (.cells (subC Lz zeroSb2) 24 (0, 0))
 below : Below w0.heap.size w0 w
 lt : w0.heap.size < g
 rp : RowIn w w0.heap.size (fun _ => True) L.A x.p
 rs : RowIn w w0.heap.size (fun _ => True) L.B x.s
 pc : x.p.length ≤ L.c
 sc : x.s.length ≤ L.d
namespace GW
variable {w0 w w1 : World} {g : Nat} {L : Sl} {x : Sb} (h : GW w0 w g L x)
include h
theorem step (hb : Below w.heap.size w w1) : GW w0 w1 g L x := ⟨blk_below h.box hb, blk_below h.res hb, below_step h.below hb, h.lt, h.rp.below hb, h.rs.below hb, h.pc, h.sc⟩
theorem moves {k : Nat} {cur cs : Array Value} (hk : w.heap[k]? = some (.cells cur 24 (0, 0))) : ∀ (j : Nat) (cj : Array Value), w.heap[j]? = some (.cells cj 53 (0, 0)) → (w.setRow k cs).heap[j]? = w.heap[j]? := fun j cj hj => setRow_other _ _ _ _ (blk_ne hj hk (by decide))
theorem put {y : Sb} (hp : y.p = x.p) (hs : y.s = x.s) : GW w0 (w.setRow g (subC L y)) g L y :=
 ⟨setRow_heap _ _ _ _ _ _ h.box, (setRow_other _ _ _ _ (by have := h.lt; omega)).trans h.res, below_setRow h.below (Nat.le_of_lt h.lt), h.lt, by rw [hp]; exact row_moved h.rp (h.moves h.box), by rw [hs]; exact row_moved h.rs (h.moves h.box), by rw [hp]; exact h.pc, by rw [hs]; exact h.sc⟩
theorem setp {ok : Nat → Prop} {A : Option Addr} {l : List S53} {c b : Nat} (hr : RowIn w b ok A l) (hb : w0.heap.size ≤ b) (hc : l.length ≤ c) : GW w0 (w.setCell ⟨g, 0, none⟩ (.slice A l.length c)) g ⟨A, c, L.B, L.d⟩ {x with p := l} := by
 have hm : ∀ (j : Nat) (cj : Array Value), w.heap[j]? = some (.cells cj 53 (0, 0)) → (w.setCell ⟨g, 0, none⟩ (.slice A l.length c)).heap[j]? = w.heap[j]? := fun j cj hj => Below.heap_setCell w _ _ j (blk_ne hj h.box (by decide))
 exact ⟨blk_put h.box 0 _ rfl, (Below.heap_setCell w _ _ _ (show w0.heap.size ≠ g by have := h.lt; omega)).trans h.res, below_set h.below (Nat.le_of_lt h.lt), h.lt, row_moved (hr.lower hb).free hm, row_moved h.rs hm, hc, h.sc⟩
theorem sets {ok : Nat → Prop} {A : Option Addr} {l : List S53} {c b : Nat} (hr : RowIn w b ok A l) (hb : w0.heap.size ≤ b) (hc : l.length ≤ c) : GW w0 (w.setCell ⟨g, 1, none⟩ (.slice A l.length c)) g ⟨L.A, L.c, A, c⟩ {x with s := l} := by
 have hm : ∀ (j : Nat) (cj : Array Value), w.heap[j]? = some (.cells cj 53 (0, 0)) → (w.setCell ⟨g, 1, none⟩ (.slice A l.length c)).heap[j]? = w.heap[j]? := fun j cj hj => Below.heap_setCell w _ _ j (blk_ne hj h.box (by decide))
 exact ⟨blk_put h.box 1 _ rfl, (Below.heap_setCell w _ _ _ (show w0.heap.size ≠ g by have := h.lt; omega)).trans h.res, below_set h.below (Nat.le_of_lt h.lt), h.lt, row_moved h.rp hm, row_moved (hr.lower hb).free hm, h.pc, hc⟩
theorem fin (cs : Array Value) : Below w0.heap.size w0 (w.setRow w0.heap.size cs) := below_setRow h.below (Nat.le_refl _)
theorem c0 : w.cell? ⟨g, 0, none⟩ = some (.slice L.A x.p.length L.c) := (blk_cell h.box 0).trans rfl
theorem c1 : w.cell? ⟨g, 1, none⟩ = some (.slice L.B x.s.length L.d) := (blk_cell h.box 1).trans rfl
theorem c9 : w.cell? ⟨g, 9, none⟩ = some (.string x.pad) := (blk_cell h.box 9).trans rfl
theorem c11 : w.cell? ⟨g, 11, none⟩ = some (.int .i64 x.wd) := (blk_cell h.box 11).trans rfl
theorem fz (i : Nat) : w.frozen? ⟨g, i, none⟩ = false := blk_frozen h.box i
theorem drew1 : GW w0 w.drew g L x := h.step (below_drew1 (Below.refl _ _))
theorem drewN (n : Nat) : GW w0 (w.drewN n) g L x := h.step (pw_below_drewN (Below.refl _ _) n)
theorem set_wd (v : Int) : GW w0 (w.setCell ⟨g, 11, none⟩ (.int .i64 v)) g L {x with wd := v} := by
 have hm : ∀ (j : Nat) (cj : Array Value), w.heap[j]? = some (.cells cj 53 (0, 0)) → (w.setCell ⟨g, 11, none⟩ (.int .i64 v)).heap[j]? = w.heap[j]? := fun j cj hj => Below.heap_setCell w _ _ j (blk_ne hj h.box (by decide))
 exact ⟨blk_put h.box 11 _ rfl, (Below.heap_setCell w _ _ _ (show w0.heap.size ≠ g by have := h.lt; omega)).trans h.res, below_set h.below (Nat.le_of_lt h.lt), h.lt, row_moved h.rp hm, row_moved h.rs hm, h.pc, h.sc⟩
end GW
def DoneR (w : World) (r : Option St) (e : Ending) (w' : World) : Prop :=
 Below w.heap.size w w' ∧ match r with
  | some y => ∃ L, e = .returned (.tuple #[subV L (widthS y), .int .i64 y.p, .bool true]) ∧ RowIn w' w.heap.size (fun _ => True) L.A (widthS y).p ∧ RowIn w' w.heap.size (fun _ => True) L.B (widthS y).s ∧ (widthS y).p.length ≤ L.c ∧ (widthS y).s.length ≤ L.d
  | none => ∃ L y q, e = .returned (.tuple #[subV L y, .int .i64 q, .bool false])
theorem doneR_none {w w' : World} {r : Option St} {L : Sl} {y : Sb} {q : Int} (hr : r = none) (hb : Below w.heap.size w w') : DoneR w r (.returned (.tuple #[subV L y, .int .i64 q, .bool false])) w' := by
 subst hr
 exact ⟨hb, L, y, q, rfl⟩
theorem retF_yes {L : Sl} {w : World} {r : Option (Int × Sb)} {y : Int × Sb} {e : Ending} {w' : World} (h : RetF L w r e w') (hr : r = some y) : e = .returned (.tuple #[subV L y.2, .int .i64 y.1, .bool true]) ∧ Below w.heap.size w w' := by
 subst hr
 exact ⟨h.2, h.1⟩
theorem retF_no {L : Sl} {w : World} {r : Option (Int × Sb)} {e : Ending} {w' : World} (h : RetF L w r e w') (hr : r = none) : ∃ y q, e = .returned (.tuple #[subV L y, .int .i64 q, .bool false]) ∧ Below w.heap.size w w' := by
 subst hr
 obtain ⟨h1, y, q, h2⟩ := h
 exact ⟨y, q, h2, h1⟩
theorem GW.done {w0 w : World} {g : Nat} {L : Sl} {x y : Sb} {R : Option St} {q n : Int} {ok : Bool} {cs : Array Value} (h : GW w0 w g L y) (hok : R = if ok = true then some ⟨q, x, n⟩ else none) (hy : widthS ⟨q, x, n⟩ = y) : DoneR w0 R (.returned (.tuple #[subV L y, .int .i64 q, .bool ok])) (w.setRow w0.heap.size cs) := by
 subst hok
 subst hy
 cases ok with
 | false => exact ⟨h.fin _, L, _, q, rfl⟩
 | true => exact ⟨h.fin _, L, rfl, row_moved h.rp (h.moves h.res), row_moved h.rs (h.moves h.res), h.pc, h.sc⟩
theorem results28 : Try.f28.results = #[.cell 4 24, .tmp 5, .tmp 6] := by kernel_rfl
set_option maxHeartbeats 16000000 in
set_option maxRecDepth 100000 in
theorem read_calls (s : ByteArray) (p : Int) (w : World) (h0 : 0 ≤ p) (hp : p ≤ s.size) (hs : s.size ≤ 128) : Calls Try.prog 28 #[.string s, .int .i64 p] w (DoneR w (runS s (stepsFrom 0) ⟨p, zeroSb2, 0⟩)) := by
 have HP := aMk hs
 have HI : Aside0 (InvP s 0 ⟨p, zeroSb2, 0⟩) := ⟨⟨h0, hp, tok_nil, check_nil, tok_nil, check_nil, fun _ => rfl, fun e => by omega, fun e => by omega⟩⟩
 obtain ⟨R, hR⟩ : ∃ R, runS s (stepsFrom 0) ⟨p, zeroSb2, 0⟩ = R := ⟨_, rfl⟩
 have HR0 := aMk hR
 rw [hR]
 clear h0 hp hs hR
 go_enter Try.func28, Try.ntmps28
 cases hA : fillF s p zeroSb2 0 with
 | none =>
  have HN := aMk (show R = none by rw [← HR0.out]; show ((fillF s p zeroSb2 0).map _).bind _ = none; rw [hA]; rfl)
  go_wp2_with (first | ((with_reducible refine gate_dst (N := 4) rfl ?_); refine box_event ?hg (N := 4) ?hd (cs := subC Lz zeroSb2) (t := 24) ?hr ?_; (case hd => rfl); (case hg => rfl); (case hr => first | (go_simp; done) | (go_simp; rfl)); intro gb hgb w1 hbox hbb; subst hgb; have HQ := aMk (And.intro hbox hbb); clear hbox hbb) | (go_at_call 47; ((refine (filler_calls Lz s p zeroSb2 0 _ HI.out.p0 HP.out).mono ?_); intro e w2 hd; obtain ⟨yn, qn, rfl, hb⟩ := retF_no hd hA; have HB2 := aMk hb; clear hb hd)) | ((with_reducible refine gate_dst (N := 7) rfl ?_); refine box_event ?hg (N := 7) ?hd (cs := subC Lz zeroSb2) (t := 24) ?hr ?_; (case hd => rfl); (case hg => rfl); (case hr => first | (go_simp; done) | (go_simp; rfl)); intro g hgb w3 hbox hbb; have HG := aMk (And.intro hbox (And.intro (blk_below (blk_below HQ.out.1 HB2.out) hbb) (below_step (below_step HQ.out.2 HB2.out) hbb))); have HLT := aMk (show w.heap.size < g by have := blk_lt (blk_below HQ.out.1 HB2.out); omega); clear hbox hbb hgb HQ HB2) | ((with_reducible refine gate_store (t := 24) (p := 7) rfl ?_); refine wpList_store_row rfl 24 (.tmp 7) (.tmp 21) rfl g (subC Lz yn) rfl rfl 24 (subC Lz zeroSb2) HG.out.1 info24 rfl (by simp [Value.oneCell']) ?_; generalize hW : World.setRow w3 g _ = w4; have KB : Aside0 (w4.heap[g]? = some (.cells (subC Lz yn) 24 (0, 0))) := ⟨by rw [← hW]; exact setRow_heap _ _ _ _ _ _ HG.out.1⟩; have KR : Aside0 (w4.heap[w.heap.size]? = some (.cells (subC Lz zeroSb2) 24 (0, 0))) := ⟨by rw [← hW]; exact (setRow_other _ _ _ _ (by have := HLT.out; omega)).trans HG.out.2.1⟩; have KL : Aside0 (Below w.heap.size w w4) := ⟨by rw [← hW]; exact below_setRow HG.out.2.2 (Nat.le_of_lt HLT.out)⟩; clear hW) | ((with_reducible refine gate_dst (N := 26) rfl ?_); refine wpList_load_row rfl 24 (.tmp 7) rfl g rfl 24 (subC Lz yn) (0, 0) _ KB.out Try.underlying24 rfl info24 ?_) | ((with_reducible refine gate_store (t := 24) (p := 4) rfl ?_); refine wpList_store_row rfl 24 (.tmp 4) (.tmp 26) rfl w.heap.size (subC Lz yn) rfl rfl 24 (subC Lz zeroSb2) KR.out info24 rfl (by simp [Value.oneCell']) ?_))
  exact bodyPost_ret (results_ctt results28 _ _ w.heap.size 24 (subC Lz yn) (0, 0) _ rfl (setRow_heap _ _ _ _ _ _ KR.out) Try.underlying24 rfl info24) rfl (doneR_none HN.out (below_setRow KL.out (Nat.le_refl _)))
 | some x =>
  have HR1 := aMk (show runS s (stepsFrom 1) ⟨x.1, x.2, 0⟩ = R by rw [← HR0.out]; show _ = ((fillF s p zeroSb2 0).map _).bind _; rw [hA]; rfl)
  have HI1 := aMk (inv_step HP.out (i := 0) (by omega) HI.out (y' := ⟨x.1, x.2, 0⟩) (show (fillF s p zeroSb2 0).map _ = _ by rw [hA]; rfl)).1
  go_upto_region 4 with (first | ((with_reducible refine gate_dst (N := 4) rfl ?_); refine box_event ?hg (N := 4) ?hd (cs := subC Lz zeroSb2) (t := 24) ?hr ?_; (case hd => rfl); (case hg => rfl); (case hr => first | (go_simp; done) | (go_simp; rfl)); intro gb hgb w1 hbox hbb; subst hgb; have HQ := aMk (And.intro hbox hbb); clear hbox hbb) | (go_at_call 47; ((refine (filler_calls Lz s p zeroSb2 0 _ HI.out.p0 HP.out).mono ?_); intro e w2 hd; obtain ⟨rfl, hb⟩ := retF_yes hd hA; have HB2 := aMk hb; clear hb hd)) | ((with_reducible refine gate_dst (N := 7) rfl ?_); refine box_event ?hg (N := 7) ?hd (cs := subC Lz zeroSb2) (t := 24) ?hr ?_; (case hd => rfl); (case hg => rfl); (case hr => first | (go_simp; done) | (go_simp; rfl)); intro g hgb w3 hbox hbb; have HG := aMk (And.intro hbox (And.intro (blk_below (blk_below HQ.out.1 HB2.out) hbb) (below_step (below_step HQ.out.2 HB2.out) hbb))); have HLT := aMk (show w.heap.size < g by have := blk_lt (blk_below HQ.out.1 HB2.out); omega); clear hbox hbb hgb HQ HB2) | ((with_reducible refine gate_store (t := 24) (p := 7) rfl ?_); refine wpList_store_row rfl 24 (.tmp 7) (.tmp 21) rfl g (subC Lz x.2) rfl rfl 24 (subC Lz zeroSb2) HG.out.1 info24 rfl (by simp [Value.oneCell']) ?_; generalize hW : World.setRow w3 g _ = w4; have NG : Aside0 (GW w w4 g Lz x.2) := ⟨by rw [← hW]; have hx := fillF_range HI.out.p0 HI.out.p1 hA; exact (GW.mk HG.out.1 HG.out.2.1 HG.out.2.2 HLT.out (RowIn.nil _ _ _) (RowIn.nil _ _ _) (Nat.le_refl _) (Nat.le_refl _) : GW w w3 g Lz zeroSb2).put hx.2.2.1 hx.2.2.2⟩; clear hW))
  clear HG HR0 HI hA
  obtain ⟨q, h⟩ := x
  replace HR1 : Aside0 (runS s (stepsFrom 1) ⟨q, h, 0⟩ = R) := HR1
  replace HI1 : Aside0 (InvP s 1 ⟨q, h, 0⟩) := HI1
  replace NG : Aside0 (GW w w4 g Lz h) := NG
  have HSR := aMk (stop_range (s := s) (st := stops1) HI1.out.p0 HI1.out.p1)
  obtain ⟨E, hE⟩ : ∃ E, stopN s stops1 q = E := ⟨_, rfl⟩
  obtain ⟨u, hu⟩ : ∃ u, s.extract q.toNat E.toNat = u := ⟨_, rfl⟩
  have HU := aMk (show u.size ≤ 1048576 by rw [← hu, ByteArray.size_extract]; have := HP.out; omega)
  have HTK := aMk (show tokT s stops1 q = parseT u by unfold tokT; rw [hE, hu])
  rw [hE] at HSR
  have b1 : 0 ≤ q := HI1.out.p0
  have b2 : q ≤ E := HSR.out.1
  have b3 : E ≤ (s.size : Int) := HSR.out.2
  have b4 : q.toNat ≤ E.toNat := by omega
  have b5 : E.toNat ≤ s.size := by omega
  have b6 : 0 ≤ E := by omega
  obtain ⟨l, er, hT⟩ : ∃ l er, parseT u = (l, er) := ⟨_, _, rfl⟩
  rw [hT] at HTK
  cases k1 : (er != 0) with
  | true =>
   have HN := aMk (show R = none by rw [← HR1.out]; show (if (tokT s stops1 q).2 = 0 then _ else none).bind _ = none; rw [HTK.out, if_neg (bne_iff_ne.mp k1)]; rfl)
   go_wp2_with (first | (go_at_call 48; ((refine (rstop_calls s stops1 q _ HP.out (by decide) stops39.1 HI1.out.p0 HI1.out.p1).mono ?_); rw [hE]; rintro e w5 ⟨rfl, hb⟩; have nf := aMk (NG.out.step hb); clear NG hb; have NG := nf; clear nf)) | (go_at_call 49; ((refine (rparse_calls u _ HU.out).mono ?_); rw [hT]; rintro e w6 ⟨A, c, rfl, hlc, hrow, hb⟩; have HLOW := aMk NG.out.below.size; have nf := aMk (NG.out.step hb); have HROW := aMk (And.intro hrow hlc); clear NG hb hrow hlc; have NG := nf; clear nf; have x0 : World.cell? _ ⟨g, 0, none⟩ = some (.slice none h.p.length 0) := (blk_cell NG.out.box 0).trans rfl; have z0 := blk_frozen NG.out.box 0)) | ((with_reducible refine gate_dst (N := 43) rfl ?_); refine wpList_load_row rfl 24 (.tmp 7) rfl g rfl 24 (subC ⟨A, c, none, 0⟩ {h with p := l}) (0, 0) _ (NG.out.setp HROW.out.1 HLOW.out HROW.out.2 : GW w _ g ⟨A, c, none, 0⟩ {h with p := l}).box Try.underlying24 rfl info24 ?_) | ((with_reducible refine gate_store (t := 24) (p := 4) rfl ?_); refine wpList_store_row rfl 24 (.tmp 4) (.tmp 43) rfl w.heap.size (subC ⟨A, c, none, 0⟩ {h with p := l}) rfl rfl 24 (subC Lz zeroSb2) (NG.out.setp HROW.out.1 HLOW.out HROW.out.2 : GW w _ g ⟨A, c, none, 0⟩ {h with p := l}).res info24 rfl (by simp [Value.oneCell']) ?_))
   exact bodyPost_ret (results_ctt results28 _ _ w.heap.size 24 (subC ⟨A, c, none, 0⟩ {h with p := l}) (0, 0) _ rfl (setRow_heap _ _ _ _ _ _ (NG.out.setp HROW.out.1 HLOW.out HROW.out.2 : GW w _ g ⟨A, c, none, 0⟩ {h with p := l}).res) Try.underlying24 rfl info24) rfl (doneR_none HN.out ((NG.out.setp HROW.out.1 HLOW.out HROW.out.2 : GW w _ g ⟨A, c, none, 0⟩ {h with p := l}).fin _))
  | false =>
   have hz : er = 0 := by simpa using k1
   have HR2 := aMk (show runS s (stepsFrom 2) ⟨E, {h with p := l}, 0⟩ = R by rw [← HR1.out]; show _ = (if (tokT s stops1 q).2 = 0 then _ else none).bind _; rw [HTK.out, if_pos hz, hE]; rfl)
   have HI2 := aMk (inv_step HP.out (i := 1) (by omega) HI1.out (y' := ⟨E, {h with p := l}, 0⟩) (show (if (tokT s stops1 q).2 = 0 then _ else none) = _ by rw [HTK.out, if_pos hz, hE])).1
   go_upto_region 9 with (first | (go_at_call 48; ((refine (rstop_calls s stops1 q _ HP.out (by decide) stops39.1 HI1.out.p0 HI1.out.p1).mono ?_); rw [hE]; rintro e w5 ⟨rfl, hb⟩; have nf := aMk (NG.out.step hb); clear NG hb; have NG := nf; clear nf)) | (go_at_call 49; ((refine (rparse_calls u _ HU.out).mono ?_); rw [hT]; rintro e w6 ⟨A, c, rfl, hlc, hrow, hb⟩; have HLOW := aMk NG.out.below.size; have nf := aMk (NG.out.step hb); have HROW := aMk (And.intro hrow hlc); clear NG hb hrow hlc; have NG := nf; clear nf; have x0 : World.cell? _ ⟨g, 0, none⟩ = some (.slice none h.p.length 0) := (blk_cell NG.out.box 0).trans rfl; have z0 := blk_frozen NG.out.box 0)))
   have NH := aMk (NG.out.setp HROW.out.1 HLOW.out HROW.out.2 : GW w _ g ⟨A, c, none, 0⟩ {h with p := l})
   cases hA : fillIf l s E {h with p := l} 1 with
   | none =>
    have HN := aMk (show R = none by rw [← HR2.out]; show ((fillIf l s E {h with p := l} 1).map _).bind _ = none; rw [hA]; rfl)
    have hl : l.length ≠ 0 := fun e => by unfold fillIf at hA; rw [if_pos e] at hA; exact absurd hA (by simp)
    unfold fillIf at hA
    rw [if_neg hl] at hA
    have d0 : decide (0 < (l.length : Int)) = true := dTr (by omega)
    have d1 : decide (0 < l.length) = true := dTr (by omega)
    clear hl
    go_wp2_with (first | ((with_reducible refine gate_dst (N := 51) rfl ?_); refine wpList_load_row rfl 24 (.tmp 7) rfl g rfl 24 (subC ⟨A, c, none, 0⟩ {h with p := l}) (0, 0) _ NH.out.box Try.underlying24 rfl info24 ?_) | (go_at_call 47; ((refine (filler_calls ⟨A, c, none, 0⟩ s E {h with p := l} 1 _ HI2.out.p0 HP.out).mono ?_); intro e w7 hd; obtain ⟨yn, qn, rfl, hb⟩ := retF_no hd hA; have nf := aMk (NH.out.step hb); clear NH hb hd; have NH := nf; clear nf)) | ((with_reducible refine gate_store (t := 24) (p := 7) rfl ?_); refine wpList_store_row rfl 24 (.tmp 7) (.tmp 53) rfl g (subC ⟨A, c, none, 0⟩ yn) rfl rfl 24 (subC ⟨A, c, none, 0⟩ {h with p := l}) NH.out.box info24 rfl (by simp [Value.oneCell']) ?_; generalize hW : World.setRow w7 g _ = w8; have KB : Aside0 (w8.heap[g]? = some (.cells (subC ⟨A, c, none, 0⟩ yn) 24 (0, 0))) := ⟨by rw [← hW]; exact setRow_heap _ _ _ _ _ _ NH.out.box⟩; have KR : Aside0 (w8.heap[w.heap.size]? = some (.cells (subC Lz zeroSb2) 24 (0, 0))) := ⟨by rw [← hW]; exact (setRow_other _ _ _ _ (by have := HLT.out; omega)).trans NH.out.res⟩; have KL : Aside0 (Below w.heap.size w w8) := ⟨by rw [← hW]; exact below_setRow NH.out.below (Nat.le_of_lt HLT.out)⟩; clear hW) | ((with_reducible refine gate_dst (N := 58) rfl ?_); refine wpList_load_row rfl 24 (.tmp 7) rfl g rfl 24 (subC ⟨A, c, none, 0⟩ yn) (0, 0) _ KB.out Try.underlying24 rfl info24 ?_) | ((with_reducible refine gate_store (t := 24) (p := 4) rfl ?_); refine wpList_store_row rfl 24 (.tmp 4) (.tmp 58) rfl w.heap.size (subC ⟨A, c, none, 0⟩ yn) rfl rfl 24 (subC Lz zeroSb2) KR.out info24 rfl (by simp [Value.oneCell']) ?_))
    exact aP69
   | some x =>
    have HR3 := aMk (show runS s (stepsFrom 3) ⟨x.1, x.2, 0⟩ = R by rw [← HR2.out]; show _ = ((fillIf l s E {h with p := l} 1).map _).bind _; rw [hA]; rfl)
    have HI3 := aMk (inv_step HP.out (i := 2) (by omega) HI2.out (y' := ⟨x.1, x.2, 0⟩) (show (fillIf l s E {h with p := l} 1).map _ = _ by rw [hA]; rfl)).1
    go_upto_if 47 with (fail)
    rename_i K hK
    go_cut [8, 9] (fun v8 v9 wc => v8 = .bool true ∧ v9 = .int .i64 x.1 ∧ Aside0 (GW w wc g ⟨A, c, none, 0⟩ x.2))
    case first =>
     by_cases hl : l.length = 0
     ·have d0 : decide (0 < (l.length : Int)) = false := dFa (by omega)
      have d1 : decide (0 < l.length) = false := dFa (by omega)
      unfold fillIf at hA
      rw [if_pos hl] at hA
      obtain rfl := Option.some.inj hA
      clear hl
      first | rw [d0] | rw [d1]
      go_wp2
      go_meet
      case rel => exact ⟨rfl, rfl, NH⟩
     ·have d0 : decide (0 < (l.length : Int)) = true := dTr (by omega)
      have d1 : decide (0 < l.length) = true := dTr (by omega)
      unfold fillIf at hA
      rw [if_neg hl] at hA
      have hx := fillF_range HI2.out.p0 HI2.out.p1 hA
      have HX1 := aMk hx.2.2.1
      have HX2 := aMk hx.2.2.2
      clear hl hx
      first | rw [d0] | rw [d1]
      go_wp2_with (first | ((with_reducible refine gate_dst (N := 51) rfl ?_); refine wpList_load_row rfl 24 (.tmp 7) rfl g rfl 24 (subC ⟨A, c, none, 0⟩ {h with p := l}) (0, 0) _ NH.out.box Try.underlying24 rfl info24 ?_) | (go_at_call 47; ((refine (filler_calls ⟨A, c, none, 0⟩ s E {h with p := l} 1 _ HI2.out.p0 HP.out).mono ?_); intro e w7 hd; obtain ⟨rfl, hb⟩ := retF_yes hd hA; have nf := aMk (NH.out.step hb); clear NH hb hd; have NH := nf; clear nf)) | ((with_reducible refine gate_store (t := 24) (p := 7) rfl ?_); refine wpList_store_row rfl 24 (.tmp 7) (.tmp 53) rfl g (subC ⟨A, c, none, 0⟩ x.2) rfl rfl 24 (subC ⟨A, c, none, 0⟩ {h with p := l}) NH.out.box info24 rfl (by simp [Value.oneCell']) ?_; generalize hW : World.setRow w7 g _ = w8; have NI : Aside0 (GW w w8 g ⟨A, c, none, 0⟩ x.2) := ⟨by rw [← hW]; exact NH.out.put HX1.out HX2.out⟩; clear hW))
      go_meet
      case rel => exact ⟨rfl, rfl, NI⟩
    case rest =>
     obtain ⟨w9, rfl⟩ : ∃ w9 : World, w9 = wc := ⟨_, rfl⟩
     obtain ⟨rfl, rfl, NI⟩ := hcut
     clear NH hA
     refine hK _ _ ?_
     clear hK K HR2 HI2 HI1 HR1 HTK hT hu hE HU hz k1 HSR b1 b2 b3 b4 b5 b6 HROW HLOW x0 z0
     obtain ⟨p3, h3⟩ := x
     replace HR3 : Aside0 (runS s (stepsFrom 3) ⟨p3, h3, 0⟩ = R) := HR3
     replace HI3 : Aside0 (InvP s 3 ⟨p3, h3, 0⟩) := HI3
     replace NI : Aside0 (GW w w9 g ⟨A, c, none, 0⟩ h3) := NI
     cases hF : placesF s p3 h3 with
     | none =>
      have HN := aMk (show R = none by rw [← HR3.out]; show ((placesF s p3 h3).map _).bind _ = none; rw [hF]; rfl)
      go_wp2_with (first | ((with_reducible refine gate_dst (N := 64) rfl ?_); refine wpList_load_row rfl 24 (.tmp 7) rfl g rfl 24 (subC ⟨A, c, none, 0⟩ h3) (0, 0) _ NI.out.box Try.underlying24 rfl info24 ?_) | (go_at_call 50; ((refine (places_walk ⟨A, c, none, 0⟩ s p3 h3 _ HI3.out.p0 HI3.out.p1 HP.out).mono ?_); intro e w10 hd; obtain ⟨yn, qn, rfl, hb⟩ := retF_no hd hF; have nf := aMk (NI.out.step hb); clear NI hb hd; have NI := nf; clear nf)) | ((with_reducible refine gate_store (t := 24) (p := 7) rfl ?_); refine wpList_store_row rfl 24 (.tmp 7) (.tmp 66) rfl g (subC ⟨A, c, none, 0⟩ yn) rfl rfl 24 (subC ⟨A, c, none, 0⟩ h3) NI.out.box info24 rfl (by simp [Value.oneCell']) ?_; generalize hW : World.setRow w10 g _ = w11; have KB : Aside0 (w11.heap[g]? = some (.cells (subC ⟨A, c, none, 0⟩ yn) 24 (0, 0))) := ⟨by rw [← hW]; exact setRow_heap _ _ _ _ _ _ NI.out.box⟩; have KR : Aside0 (w11.heap[w.heap.size]? = some (.cells (subC Lz zeroSb2) 24 (0, 0))) := ⟨by rw [← hW]; exact (setRow_other _ _ _ _ (by have := HLT.out; omega)).trans NI.out.res⟩; have KL : Aside0 (Below w.heap.size w w11) := ⟨by rw [← hW]; exact below_setRow NI.out.below (Nat.le_of_lt HLT.out)⟩; clear hW) | ((with_reducible refine gate_dst (N := 71) rfl ?_); refine wpList_load_row rfl 24 (.tmp 7) rfl g rfl 24 (subC ⟨A, c, none, 0⟩ yn) (0, 0) _ KB.out Try.underlying24 rfl info24 ?_) | ((with_reducible refine gate_store (t := 24) (p := 4) rfl ?_); refine wpList_store_row rfl 24 (.tmp 4) (.tmp 71) rfl w.heap.size (subC ⟨A, c, none, 0⟩ yn) rfl rfl 24 (subC Lz zeroSb2) KR.out info24 rfl (by simp [Value.oneCell']) ?_))
      exact aP69
     | some x =>
      have HR4 := aMk (show runS s (stepsFrom 4) ⟨x.1, x.2, x.1 - p3⟩ = R by rw [← HR3.out]; show _ = ((placesF s p3 h3).map _).bind _; rw [hF]; rfl)
      have HI4 := aMk (inv_step HP.out (i := 3) (by omega) HI3.out (y' := ⟨x.1, x.2, x.1 - p3⟩) (show (placesF s p3 h3).map _ = _ by rw [hF]; rfl)).1
      have hx := placesF_range HI3.out.p0 HI3.out.p1 hF
      have HX1 := aMk hx.2.2.1
      have HX2 := aMk hx.2.2.2
      clear hx
      go_upto_region 17 with (first | ((with_reducible refine gate_dst (N := 64) rfl ?_); refine wpList_load_row rfl 24 (.tmp 7) rfl g rfl 24 (subC ⟨A, c, none, 0⟩ h3) (0, 0) _ NI.out.box Try.underlying24 rfl info24 ?_) | (go_at_call 50; ((refine (places_walk ⟨A, c, none, 0⟩ s p3 h3 _ HI3.out.p0 HI3.out.p1 HP.out).mono ?_); intro e w10 hd; obtain ⟨rfl, hb⟩ := retF_yes hd hF; have nf := aMk (NI.out.step hb); clear NI hb hd; have NI := nf; clear nf)) | ((with_reducible refine gate_store (t := 24) (p := 7) rfl ?_); refine wpList_store_row rfl 24 (.tmp 7) (.tmp 66) rfl g (subC ⟨A, c, none, 0⟩ x.2) rfl rfl 24 (subC ⟨A, c, none, 0⟩ h3) NI.out.box info24 rfl (by simp [Value.oneCell']) ?_; generalize hW : World.setRow w10 g _ = w11; have NJ : Aside0 (GW w w11 g ⟨A, c, none, 0⟩ x.2) := ⟨by rw [← hW]; exact NI.out.put HX1.out HX2.out⟩; clear hW))
      clear hF HX1 HX2 HR3 NI
      obtain ⟨p4, h4⟩ := x
      replace HR4 : Aside0 (runS s (stepsFrom 4) ⟨p4, h4, p4 - p3⟩ = R) := HR4
      replace HI4 : Aside0 (InvP s 4 ⟨p4, h4, p4 - p3⟩) := HI4
      replace NJ : Aside0 (GW w w11 g ⟨A, c, none, 0⟩ h4) := NJ
      cases hF : tailF s p4 h4 with
      | none =>
       have HN := aMk (show R = none by rw [← HR4.out]; show ((tailF s p4 h4).map _).bind _ = none; rw [hF]; rfl)
       go_wp2_with (first | ((with_reducible refine gate_dst (N := 76) rfl ?_); refine wpList_load_row rfl 24 (.tmp 7) rfl g rfl 24 (subC ⟨A, c, none, 0⟩ h4) (0, 0) _ NJ.out.box Try.underlying24 rfl info24 ?_) | (go_at_call 51; ((refine (tail_calls ⟨A, c, none, 0⟩ s p4 h4 _ HI4.out.p0 HI4.out.p1 HP.out).mono ?_); intro e w12 hd; obtain ⟨yn, qn, rfl, hb⟩ := retF_no hd hF; have nf := aMk (NJ.out.step hb); clear NJ hb hd; have NJ := nf; clear nf)) | ((with_reducible refine gate_store (t := 24) (p := 7) rfl ?_); refine wpList_store_row rfl 24 (.tmp 7) (.tmp 78) rfl g (subC ⟨A, c, none, 0⟩ yn) rfl rfl 24 (subC ⟨A, c, none, 0⟩ h4) NJ.out.box info24 rfl (by simp [Value.oneCell']) ?_; generalize hW : World.setRow w12 g _ = w13; have KB : Aside0 (w13.heap[g]? = some (.cells (subC ⟨A, c, none, 0⟩ yn) 24 (0, 0))) := ⟨by rw [← hW]; exact setRow_heap _ _ _ _ _ _ NJ.out.box⟩; have KR : Aside0 (w13.heap[w.heap.size]? = some (.cells (subC Lz zeroSb2) 24 (0, 0))) := ⟨by rw [← hW]; exact (setRow_other _ _ _ _ (by have := HLT.out; omega)).trans NJ.out.res⟩; have KL : Aside0 (Below w.heap.size w w13) := ⟨by rw [← hW]; exact below_setRow NJ.out.below (Nat.le_of_lt HLT.out)⟩; clear hW) | ((with_reducible refine gate_dst (N := 83) rfl ?_); refine wpList_load_row rfl 24 (.tmp 7) rfl g rfl 24 (subC ⟨A, c, none, 0⟩ yn) (0, 0) _ KB.out Try.underlying24 rfl info24 ?_) | ((with_reducible refine gate_store (t := 24) (p := 4) rfl ?_); refine wpList_store_row rfl 24 (.tmp 4) (.tmp 83) rfl w.heap.size (subC ⟨A, c, none, 0⟩ yn) rfl rfl 24 (subC Lz zeroSb2) KR.out info24 rfl (by simp [Value.oneCell']) ?_))
       exact aP69
      | some x =>
       have HR5 := aMk (show runS s (stepsFrom 5) ⟨x.1, x.2, p4 - p3 + (x.1 - p4)⟩ = R by rw [← HR4.out]; show _ = ((tailF s p4 h4).map _).bind _; rw [hF]; rfl)
       have HI5 := aMk (inv_step HP.out (i := 4) (by omega) HI4.out (y' := ⟨x.1, x.2, p4 - p3 + (x.1 - p4)⟩) (show (tailF s p4 h4).map _ = _ by rw [hF]; rfl)).1
       have hx := tailF_range HI4.out.p0 HI4.out.p1 hF
       have HX1 := aMk hx.2.2.1
       have HX2 := aMk hx.2.2.2
       clear hx
       go_upto_region 20 with (first | ((with_reducible refine gate_dst (N := 76) rfl ?_); refine wpList_load_row rfl 24 (.tmp 7) rfl g rfl 24 (subC ⟨A, c, none, 0⟩ h4) (0, 0) _ NJ.out.box Try.underlying24 rfl info24 ?_) | (go_at_call 51; ((refine (tail_calls ⟨A, c, none, 0⟩ s p4 h4 _ HI4.out.p0 HI4.out.p1 HP.out).mono ?_); intro e w12 hd; obtain ⟨rfl, hb⟩ := retF_yes hd hF; have nf := aMk (NJ.out.step hb); clear NJ hb hd; have NJ := nf; clear nf)) | ((with_reducible refine gate_store (t := 24) (p := 7) rfl ?_); refine wpList_store_row rfl 24 (.tmp 7) (.tmp 78) rfl g (subC ⟨A, c, none, 0⟩ x.2) rfl rfl 24 (subC ⟨A, c, none, 0⟩ h4) NJ.out.box info24 rfl (by simp [Value.oneCell']) ?_; generalize hW : World.setRow w12 g _ = w13; have NK : Aside0 (GW w w13 g ⟨A, c, none, 0⟩ x.2) := ⟨by rw [← hW]; exact NJ.out.put HX1.out HX2.out⟩; clear hW))
       clear hF HX1 HX2 HR4 NJ
       obtain ⟨p5, h5⟩ := x
       replace HR5 : Aside0 (runS s (stepsFrom 5) ⟨p5, h5, p4 - p3 + (p5 - p4)⟩ = R) := HR5
       replace HI5 : Aside0 (InvP s 5 ⟨p5, h5, p4 - p3 + (p5 - p4)⟩) := HI5
       replace NK : Aside0 (GW w w13 g ⟨A, c, none, 0⟩ h5) := NK
       have wr13 : IntKind.i64.wrap (p5 - p3) = p5 - p3 := IntWalk.i64_in _ (by have a1 : 0 ≤ p3 := HI3.out.p0; have a2 : p3 ≤ s.size := HI3.out.p1; have a3 : 0 ≤ p5 := HI5.out.p0; have a4 : p5 ≤ s.size := HI5.out.p1; have := HP.out; omega)
       cases hF : fillF s p5 h5 2 with
       | none =>
        have HN := aMk (show R = none by rw [← HR5.out]; show ((fillF s p5 h5 2).map _).bind _ = none; rw [hF]; rfl)
        go_wp2_with (first | ((with_reducible refine gate_dst (N := 91) rfl ?_); refine wpList_load_row rfl 24 (.tmp 7) rfl g rfl 24 (subC ⟨A, c, none, 0⟩ h5) (0, 0) _ NK.out.box Try.underlying24 rfl info24 ?_) | (go_at_call 47; ((refine (filler_calls ⟨A, c, none, 0⟩ s p5 h5 2 _ HI5.out.p0 HP.out).mono ?_); intro e w14 hd; obtain ⟨yn, qn, rfl, hb⟩ := retF_no hd hF; have nf := aMk (NK.out.step hb); clear NK hb hd; have NK := nf; clear nf)) | ((with_reducible refine gate_store (t := 24) (p := 7) rfl ?_); refine wpList_store_row rfl 24 (.tmp 7) (.tmp 93) rfl g (subC ⟨A, c, none, 0⟩ yn) rfl rfl 24 (subC ⟨A, c, none, 0⟩ h5) NK.out.box info24 rfl (by simp [Value.oneCell']) ?_; generalize hW : World.setRow w14 g _ = w15; have KB : Aside0 (w15.heap[g]? = some (.cells (subC ⟨A, c, none, 0⟩ yn) 24 (0, 0))) := ⟨by rw [← hW]; exact setRow_heap _ _ _ _ _ _ NK.out.box⟩; have KR : Aside0 (w15.heap[w.heap.size]? = some (.cells (subC Lz zeroSb2) 24 (0, 0))) := ⟨by rw [← hW]; exact (setRow_other _ _ _ _ (by have := HLT.out; omega)).trans NK.out.res⟩; have KL : Aside0 (Below w.heap.size w w15) := ⟨by rw [← hW]; exact below_setRow NK.out.below (Nat.le_of_lt HLT.out)⟩; clear hW) | ((with_reducible refine gate_dst (N := 98) rfl ?_); refine wpList_load_row rfl 24 (.tmp 7) rfl g rfl 24 (subC ⟨A, c, none, 0⟩ yn) (0, 0) _ KB.out Try.underlying24 rfl info24 ?_) | ((with_reducible refine gate_store (t := 24) (p := 4) rfl ?_); refine wpList_store_row rfl 24 (.tmp 4) (.tmp 98) rfl w.heap.size (subC ⟨A, c, none, 0⟩ yn) rfl rfl 24 (subC Lz zeroSb2) KR.out info24 rfl (by simp [Value.oneCell']) ?_))
        exact aP69
       | some x =>
        have HR6 := aMk (show runS s (stepsFrom 6) ⟨x.1, x.2, p4 - p3 + (p5 - p4)⟩ = R by rw [← HR5.out]; show _ = ((fillF s p5 h5 2).map _).bind _; rw [hF]; rfl)
        have HI6 := aMk (inv_step HP.out (i := 5) (by omega) HI5.out (y' := ⟨x.1, x.2, p4 - p3 + (p5 - p4)⟩) (show (fillF s p5 h5 2).map _ = _ by rw [hF]; rfl)).1
        have hx := fillF_range HI5.out.p0 HI5.out.p1 hF
        have HX1 := aMk hx.2.2.1
        have HX2 := aMk hx.2.2.2
        clear hx
        go_upto_region 24 with (first | ((with_reducible refine gate_dst (N := 91) rfl ?_); refine wpList_load_row rfl 24 (.tmp 7) rfl g rfl 24 (subC ⟨A, c, none, 0⟩ h5) (0, 0) _ NK.out.box Try.underlying24 rfl info24 ?_) | (go_at_call 47; ((refine (filler_calls ⟨A, c, none, 0⟩ s p5 h5 2 _ HI5.out.p0 HP.out).mono ?_); intro e w14 hd; obtain ⟨rfl, hb⟩ := retF_yes hd hF; have nf := aMk (NK.out.step hb); clear NK hb hd; have NK := nf; clear nf)) | ((with_reducible refine gate_store (t := 24) (p := 7) rfl ?_); refine wpList_store_row rfl 24 (.tmp 7) (.tmp 93) rfl g (subC ⟨A, c, none, 0⟩ x.2) rfl rfl 24 (subC ⟨A, c, none, 0⟩ h5) NK.out.box info24 rfl (by simp [Value.oneCell']) ?_; generalize hW : World.setRow w14 g _ = w15; have NL : Aside0 (GW w w15 g ⟨A, c, none, 0⟩ x.2) := ⟨by rw [← hW]; exact NK.out.put HX1.out HX2.out⟩; clear hW))
        clear hF HX1 HX2 HR5 NK
        obtain ⟨p6, h6⟩ := x
        replace HR6 : Aside0 (runS s (stepsFrom 6) ⟨p6, h6, p4 - p3 + (p5 - p4)⟩ = R) := HR6
        replace HI6 : Aside0 (InvP s 6 ⟨p6, h6, p4 - p3 + (p5 - p4)⟩) := HI6
        replace NL : Aside0 (GW w w15 g ⟨A, c, none, 0⟩ h6) := NL
        have HSR := aMk (stop_range (s := s) (st := stops2) HI6.out.p0 HI6.out.p1)
        obtain ⟨E, hE⟩ : ∃ E, stopN s stops2 p6 = E := ⟨_, rfl⟩
        obtain ⟨u, hu⟩ : ∃ u, s.extract p6.toNat E.toNat = u := ⟨_, rfl⟩
        have HU := aMk (show u.size ≤ 1048576 by rw [← hu, ByteArray.size_extract]; have := HP.out; omega)
        have HTK := aMk (show tokT s stops2 p6 = parseT u by unfold tokT; rw [hE, hu])
        rw [hE] at HSR
        have b1 : 0 ≤ p6 := HI6.out.p0
        have b2 : p6 ≤ E := HSR.out.1
        have b3 : E ≤ (s.size : Int) := HSR.out.2
        have b4 : p6.toNat ≤ E.toNat := by omega
        have b5 : E.toNat ≤ s.size := by omega
        have b6 : 0 ≤ E := by omega
        obtain ⟨m, er, hT⟩ : ∃ m er, parseT u = (m, er) := ⟨_, _, rfl⟩
        rw [hT] at HTK
        cases k1 : (er != 0) with
        | true =>
         have HN := aMk (show R = none by rw [← HR6.out]; show (if (tokT s stops2 p6).2 = 0 then _ else none).bind _ = none; rw [HTK.out, if_neg (bne_iff_ne.mp k1)]; rfl)
         go_wp2_with (first | (go_at_call 48; ((refine (rstop_calls s stops2 p6 _ HP.out (by decide) stops39.2 HI6.out.p0 HI6.out.p1).mono ?_); rw [hE]; rintro e w16 ⟨rfl, hb⟩; have nf := aMk (NL.out.step hb); clear NL hb; have NL := nf; clear nf)) | (go_at_call 49; ((refine (rparse_calls u _ HU.out).mono ?_); rw [hT]; rintro e w17 ⟨B, d, rfl, hlc, hrow, hb⟩; have HLOW := aMk NL.out.below.size; have nf := aMk (NL.out.step hb); have HROW := aMk (And.intro hrow hlc); clear NL hb hrow hlc; have NL := nf; clear nf; have x1 : World.cell? _ ⟨g, 1, none⟩ = some (.slice none h6.s.length 0) := (blk_cell NL.out.box 1).trans rfl; have z1 := blk_frozen NL.out.box 1)) | ((with_reducible refine gate_dst (N := 115) rfl ?_); refine wpList_load_row rfl 24 (.tmp 7) rfl g rfl 24 (subC ⟨A, c, B, d⟩ {h6 with s := m}) (0, 0) _ (NL.out.sets HROW.out.1 HLOW.out HROW.out.2 : GW w _ g ⟨A, c, B, d⟩ {h6 with s := m}).box Try.underlying24 rfl info24 ?_) | ((with_reducible refine gate_store (t := 24) (p := 4) rfl ?_); refine wpList_store_row rfl 24 (.tmp 4) (.tmp 115) rfl w.heap.size (subC ⟨A, c, B, d⟩ {h6 with s := m}) rfl rfl 24 (subC Lz zeroSb2) (NL.out.sets HROW.out.1 HLOW.out HROW.out.2 : GW w _ g ⟨A, c, B, d⟩ {h6 with s := m}).res info24 rfl (by simp [Value.oneCell']) ?_))
         exact bodyPost_ret (results_ctt results28 _ _ w.heap.size 24 (subC ⟨A, c, B, d⟩ {h6 with s := m}) (0, 0) _ rfl (setRow_heap _ _ _ _ _ _ (NL.out.sets HROW.out.1 HLOW.out HROW.out.2 : GW w _ g ⟨A, c, B, d⟩ {h6 with s := m}).res) Try.underlying24 rfl info24) rfl (doneR_none HN.out ((NL.out.sets HROW.out.1 HLOW.out HROW.out.2 : GW w _ g ⟨A, c, B, d⟩ {h6 with s := m}).fin _))
        | false =>
         have hz : er = 0 := by simpa using k1
         have HR7 := aMk (show runS s (stepsFrom 7) ⟨E, {h6 with s := m}, p4 - p3 + (p5 - p4)⟩ = R by rw [← HR6.out]; show _ = (if (tokT s stops2 p6).2 = 0 then _ else none).bind _; rw [HTK.out, if_pos hz, hE]; rfl)
         have HI7 := aMk (inv_step HP.out (i := 6) (by omega) HI6.out (y' := ⟨E, {h6 with s := m}, p4 - p3 + (p5 - p4)⟩) (show (if (tokT s stops2 p6).2 = 0 then _ else none) = _ by rw [HTK.out, if_pos hz, hE])).1
         go_upto_region 29 with (first | (go_at_call 48; ((refine (rstop_calls s stops2 p6 _ HP.out (by decide) stops39.2 HI6.out.p0 HI6.out.p1).mono ?_); rw [hE]; rintro e w16 ⟨rfl, hb⟩; have nf := aMk (NL.out.step hb); clear NL hb; have NL := nf; clear nf)) | (go_at_call 49; ((refine (rparse_calls u _ HU.out).mono ?_); rw [hT]; rintro e w17 ⟨B, d, rfl, hlc, hrow, hb⟩; have HLOW := aMk NL.out.below.size; have nf := aMk (NL.out.step hb); have HROW := aMk (And.intro hrow hlc); clear NL hb hrow hlc; have NL := nf; clear nf; have x1 : World.cell? _ ⟨g, 1, none⟩ = some (.slice none h6.s.length 0) := (blk_cell NL.out.box 1).trans rfl; have z1 := blk_frozen NL.out.box 1)))
         have NM := aMk (NL.out.sets HROW.out.1 HLOW.out HROW.out.2 : GW w _ g ⟨A, c, B, d⟩ {h6 with s := m})
         clear NL HR6 HI6 HTK hT hu hE HU hz k1 HSR b1 b2 b3 b4 b5 b6
         obtain ⟨n, hn⟩ : ∃ n, p4 - p3 + (p5 - p4) = n := ⟨_, rfl⟩
         have hn2 : p5 - p3 = n := by omega
         rw [hn2]
         rw [hn] at HR7 HI7
         have HN7 := aMk (show 0 ≤ n ∧ n ≤ 256 from HI7.out.n5 (by omega))
         clear hn hn2
         go_upto_if 119 with (fail)
         rename_i K hK
         go_cut [8, 14] (fun v8 v14 wc => ∃ (ok : Bool) (q : Int) (x : Sb), v8 = .bool ok ∧ v14 = .int .i64 q ∧ Aside0 (x.p = h6.p ∧ x.s = m) ∧ Aside0 (R = if ok = true then some ⟨q, x, n⟩ else none) ∧ Aside0 (GW w wc g ⟨A, c, B, d⟩ x))
         case first =>
          have HU7 := aMk (show ((fillIf m s E {h6 with s := m} 3).map fun x => (⟨x.1, x.2, n⟩ : St)).bind (runS s []) = R from HR7.out)
          clear HR7
          by_cases hl : m.length = 0
          ·have d0 : decide (0 < (m.length : Int)) = false := dFa (by omega)
           have d1 : decide (0 < m.length) = false := dFa (by omega)
           have HOK := aMk (show R = if true = true then some ⟨E, {h6 with s := m}, n⟩ else none by rw [← HU7.out]; unfold fillIf; rw [if_pos hl]; rfl)
           clear hl
           first | rw [d0] | rw [d1]
           go_wp2
           go_meet
           case rel => exact ⟨true, E, {h6 with s := m}, rfl, rfl, ⟨rfl, rfl⟩, HOK, NM⟩
          ·have d0 : decide (0 < (m.length : Int)) = true := dTr (by omega)
           have d1 : decide (0 < m.length) = true := dTr (by omega)
           have HU8 := aMk (show ((fillF s E {h6 with s := m} 3).map fun x => (⟨x.1, x.2, n⟩ : St)).bind (runS s []) = R by rw [← HU7.out]; unfold fillIf; rw [if_neg hl])
           clear hl HU7
           first | rw [d0] | rw [d1]
           cases hA : fillF s E {h6 with s := m} 3 with
           | none =>
            have HOK := aMk (show R = if false = true then some ⟨E, {h6 with s := m}, n⟩ else none by rw [← HU8.out, hA]; rfl)
            go_wp2_with (first | ((with_reducible refine gate_dst (N := 123) rfl ?_); refine wpList_load_row rfl 24 (.tmp 7) rfl g rfl 24 (subC ⟨A, c, B, d⟩ {h6 with s := m}) (0, 0) _ NM.out.box Try.underlying24 rfl info24 ?_) | (go_at_call 47; ((refine (filler_own ⟨A, c, B, d⟩ s E {h6 with s := m} 3 _ HI7.out.p0 HP.out).mono ?_); rw [hA]; rintro e w18 ⟨hb, rfl⟩; have nf := aMk (NM.out.step hb); clear NM hb; have NM := nf; clear nf)) | ((with_reducible refine gate_store (t := 24) (p := 7) rfl ?_); refine wpList_store_row rfl 24 (.tmp 7) (.tmp 125) rfl g (subC ⟨A, c, B, d⟩ {h6 with s := m}) rfl rfl 24 (subC ⟨A, c, B, d⟩ {h6 with s := m}) NM.out.box info24 rfl (by simp [Value.oneCell']) ?_; generalize hW : World.setRow w18 g _ = w19; have NO : Aside0 (GW w w19 g ⟨A, c, B, d⟩ {h6 with s := m}) := ⟨by rw [← hW]; exact NM.out.put rfl rfl⟩; clear hW))
            go_meet
            case rel => exact ⟨false, E, {h6 with s := m}, rfl, rfl, ⟨rfl, rfl⟩, HOK, NO⟩
           | some x =>
            have HOK := aMk (show R = if true = true then some ⟨x.1, x.2, n⟩ else none by rw [← HU8.out, hA]; rfl)
            have hx := fillF_range HI7.out.p0 HI7.out.p1 hA
            have HX1 := aMk hx.2.2.1
            have HX2 := aMk hx.2.2.2
            clear hx
            go_wp2_with (first | ((with_reducible refine gate_dst (N := 123) rfl ?_); refine wpList_load_row rfl 24 (.tmp 7) rfl g rfl 24 (subC ⟨A, c, B, d⟩ {h6 with s := m}) (0, 0) _ NM.out.box Try.underlying24 rfl info24 ?_) | (go_at_call 47; ((refine (filler_own ⟨A, c, B, d⟩ s E {h6 with s := m} 3 _ HI7.out.p0 HP.out).mono ?_); rw [hA]; rintro e w18 ⟨hb, rfl⟩; have nf := aMk (NM.out.step hb); clear NM hb; have NM := nf; clear nf)) | ((with_reducible refine gate_store (t := 24) (p := 7) rfl ?_); refine wpList_store_row rfl 24 (.tmp 7) (.tmp 125) rfl g (subC ⟨A, c, B, d⟩ x.2) rfl rfl 24 (subC ⟨A, c, B, d⟩ {h6 with s := m}) NM.out.box info24 rfl (by simp [Value.oneCell']) ?_; generalize hW : World.setRow w18 g _ = w19; have NO : Aside0 (GW w w19 g ⟨A, c, B, d⟩ x.2) := ⟨by rw [← hW]; exact NM.out.put HX1.out HX2.out⟩; clear hW))
            go_meet
            case rel => exact ⟨true, x.1, x.2, rfl, rfl, ⟨HX1.out, HX2.out⟩, HOK, NO⟩
         case rest =>
          obtain ⟨w20, rfl⟩ : ∃ w20 : World, w20 = wc := ⟨_, rfl⟩
          obtain ⟨ok, q8, x, rfl, rfl, HRW, HOK, NP⟩ := hcut
          refine hK _ _ ?_
          clear hK K HR7 NM
          have e9 := NP.out.c9
          cases pe : x.pad.toList.isEmpty with
          | true =>
           have HE := aMk (show widthS ⟨q8, x, n⟩ = x by unfold widthS; rw [if_pos pe])
           have ND := NP
           go_wp2_with (first | ((with_reducible refine gate_dst (N := 141) rfl ?_); refine wpList_load_row rfl 24 (.tmp 7) rfl g rfl 24 (subC ⟨A, c, B, d⟩ x) (0, 0) _ ND.out.box Try.underlying24 rfl info24 ?_) | ((with_reducible refine gate_store (t := 24) (p := 4) rfl ?_); refine wpList_store_row rfl 24 (.tmp 4) (.tmp 141) rfl w.heap.size (subC ⟨A, c, B, d⟩ x) rfl rfl 24 (subC Lz zeroSb2) ND.out.res info24 rfl (by simp [Value.oneCell']) ?_))
           exact bodyPost_ret (results_ctt results28 _ _ w.heap.size 24 (subC ⟨A, c, B, d⟩ x) (0, 0) _ rfl (setRow_heap _ _ _ _ _ _ ND.out.res) Try.underlying24 rfl info24) rfl (ND.out.done HOK.out HE.out)
          | false =>
           have HE := aMk (show widthS ⟨q8, x, n⟩ = {x with wd := runesT x.p + n + runesT x.s} by unfold widthS; rw [if_neg (by rw [pe]; decide)])
           have HT := aMk (show TokOk x.p ∧ checkS x.p = 0 ∧ TokOk x.s ∧ checkS x.s = 0 by rw [HRW.out.1, HRW.out.2]; exact ⟨HI7.out.tp, HI7.out.cp, HI7.out.ts, HI7.out.cs⟩)
           have r1 := runesT_range x.p HT.out.2.1 HT.out.1
           have r2 := runesT_range x.s HT.out.2.2.2 HT.out.2.2.1
           have nn := HN7.out
           have hw1 : IntKind.i64.wrap (runesT x.p + n) = runesT x.p + n := IntWalk.i64_in _ (by omega)
           have hw2 : IntKind.i64.wrap (runesT x.p + n + runesT x.s) = runesT x.p + n + runesT x.s := IntWalk.i64_in _ (by omega)
           clear r1 r2 nn
           go_wp2_with fail
           go_region_held3 (fun w' => w'.cell? ⟨g, 0, none⟩ = some (.slice A x.p.length c) ∧ w'.cell? ⟨g, 1, none⟩ = some (.slice B x.s.length d))
            (first | exact ⟨NP.out.c0, NP.out.c1⟩ | exact ⟨(NP.out.set_wd _).c0, (NP.out.set_wd _).c1⟩ | exact ⟨(NP.out.set_wd _).drew1.c0, (NP.out.set_wd _).drew1.c1⟩)
            (first | (go_at_call 52; (with_reducible refine (rtruns_calls A c x.p _ (aP140 : GW w _ g ⟨A, c, B, d⟩ x).rp.C NP.out.pc HT.out.1 HT.out.2.1).mono ?_); rintro e w21 ⟨rfl, hb⟩; have nc := aMk ((aP140 : GW w _ g ⟨A, c, B, d⟩ x).step hb); have z11 := nc.out.fz 11; have e11 := nc.out.c11; clear NP hb; have NP := nc; clear nc) | (go_at_call 52; (with_reducible refine (rtruns_calls B d x.s _ (aP140 : GW w _ g ⟨A, c, B, d⟩ x).rs.C NP.out.sc HT.out.2.2.1 HT.out.2.2.2).mono ?_); rintro e w21 ⟨rfl, hb⟩; have nc := aMk ((aP140 : GW w _ g ⟨A, c, B, d⟩ x).step hb); have z11 := nc.out.fz 11; have e11 := nc.out.c11; clear NP hb; have NP := nc; clear nc))
           have ND : Aside0 (GW w _ g ⟨A, c, B, d⟩ {x with wd := runesT x.p + n + runesT x.s}) := ⟨by first | exact NP.out.set_wd _ | exact (NP.out.set_wd _).drew1 | exact (NP.out.set_wd _).drewN _⟩
           go_wp2_with (first | ((with_reducible refine gate_dst (N := 141) rfl ?_); refine wpList_load_row rfl 24 (.tmp 7) rfl g rfl 24 (subC ⟨A, c, B, d⟩ {x with wd := runesT x.p + n + runesT x.s}) (0, 0) _ ND.out.box Try.underlying24 rfl info24 ?_) | ((with_reducible refine gate_store (t := 24) (p := 4) rfl ?_); refine wpList_store_row rfl 24 (.tmp 4) (.tmp 141) rfl w.heap.size (subC ⟨A, c, B, d⟩ {x with wd := runesT x.p + n + runesT x.s}) rfl rfl 24 (subC Lz zeroSb2) ND.out.res info24 rfl (by simp [Value.oneCell']) ?_))
           exact bodyPost_ret (results_ctt results28 _ _ w.heap.size 24 (subC ⟨A, c, B, d⟩ {x with wd := runesT x.p + n + runesT x.s}) (0, 0) _ rfl (setRow_heap _ _ _ _ _ _ ND.out.res) Try.underlying24 rfl info24) rfl (ND.out.done HOK.out HE.out)
end Go.Proofs.Ytacnjemndfmbhaa.Q
end
section
namespace Go.Proofs.Ytacnjemndfmbhaa.Q
open Go.RowKit Go.Proofs.Ytacnjemndfmbhaa.A Go.Proofs.YtacnjemndfmbhaaW.PrintWords Go.Proofs.YtacnjemndfmbhaaW.PrintLast Go.Proofs.YtacnjemndfmbhaaW.PrintMore
set_option linter.unusedVariables false
set_option linter.unusedSimpArgs false
theorem raw_split (im : Int) (h0 : 0 ≤ im) (mid lo : Nat) (h1 : lo ≤ mid) : ∀ d : Nat, rawD im ((mid + d : Nat) : Int) lo = rawD im ((mid + d : Nat) : Int) mid ++ rawD im mid lo
 | 0 => by rw [Nat.add_zero, raw_none _ _ h0]; rfl
 | d + 1 => by
  have ih := raw_split im h0 mid lo h1 d
  have e : ((mid + (d + 1) : Nat) : Int) = ((mid + d : Nat) : Int) + 1 := by omega
  rw [e, raw_step _ _ _ (by omega), raw_step _ _ _ (by omega), ih, List.append_assoc]
theorem raw_cut (im hi mid lo : Int) (h0 : 0 ≤ im) (h1 : 0 ≤ lo) (h2 : lo ≤ mid) (h3 : mid ≤ hi) : rawD im hi lo = rawD im hi mid ++ rawD im mid lo := by
 obtain ⟨l, rfl⟩ : ∃ l : Nat, lo = l := ⟨lo.toNat, by omega⟩
 obtain ⟨m, rfl⟩ : ∃ m : Nat, mid = m := ⟨mid.toNat, by omega⟩
 obtain ⟨d, rfl⟩ : ∃ d : Nat, hi = ((m + d : Nat) : Int) := ⟨(hi - m).toNat, by omega⟩
 exact raw_split im h0 m l (by omega) d
def row1 (x : Sb) (n : Int) : List UInt8 := if 0 < x.se then rawD x.im n (x.pr + x.se) ++ [44] ++ rawD x.im (x.pr + x.se) 0 else rawD x.im n 0
theorem cut_list (r : ByteArray) (a b : List UInt8) (k : Int) (h : r.data.toList = a ++ b) (hk : (a.length : Int) = k) : (r.extract 0 k.toNat).data.toList = a ∧ (r.extract k.toNat r.size).data.toList = b := by
 have hs : r.size = a.length + b.length := by
  have := congrArg List.length h
  simpa using this
 have e : k.toNat = a.length := by omega
 rw [e]
 refine ⟨?_, ?_⟩
 ·rw [ByteArray.data_extract, Array.toList_extract, h]; simp
 ·rw [ByteArray.data_extract, Array.toList_extract, h, hs]; simp
theorem comma_list (r : ByteArray) (a b : List UInt8) (k : Int) (h : r.data.toList = a ++ b) (hk : (a.length : Int) = k) : (r.extract 0 k.toNat ++ (⟨#[44]⟩ : ByteArray) ++ r.extract k.toNat r.size).data.toList = a ++ [44] ++ b := by
 obtain ⟨h1, h2⟩ := cut_list r a b k h hk
 simp only [ByteArray.data_append, Array.toList_append, h1, h2]
theorem size_list (r : ByteArray) (l : List UInt8) (h : r.data.toList = l) : r.size = l.length := by
 have := congrArg List.length h
 simpa using this
theorem bytes_inj {a b : ByteArray} (h : a.data.toList = b.data.toList) : a = b := by cases a; cases b; congr; exact Array.toList_inj.1 h
set_option maxHeartbeats 16000000 in
set_option maxRecDepth 100000 in
theorem rdigits_calls (L : Sl) (x : Sb) (n : Int) (w : World) (hf : Fine x) (hn : leastS x ≤ n) (hn2 : n ≤ 200) : Calls Try.prog 58 #[subV L x, .int .i64 n] w fun e w' => e = .returned (.string (digS x n)) ∧ Below w.heap.size w w' := by
 have hl0 : x.im ≤ n ∧ 1 ≤ n ∧ x.pr + x.se + (if 0 < x.pr then 1 else 0) ≤ n := by obtain ⟨i0, i1, _, _, _, _, p0, p1, s0, s1, _, _, ps⟩ := hf; unfold leastS mx at hn; split <;> (split at hn <;> (try split at hn) <;> (try split at hn) <;> omega)
 have HF := aMk hf
 have HN := aMk hl0
 have HLE := aMk (And.intro hn hn2)
 obtain ⟨i0, i1, x0, x1, n0, n1, p0, p1, s0, s1, m0, m1, ps⟩ := hf
 have hn1 := hl0.1
 have hw0 : IntKind.i64.wrap (n - x.im) = n - x.im := IntWalk.i64_in _ (by omega)
 have hz0 := eq_false (Nat.not_lt.2 (show (repB 35 (n - x.im)).size + (repB 48 x.im).size ≤ 9223372036854775807 by rw [repB_size, repB_size]; omega))
 clear hn hl0 ps
 go_enter Try.func58, Try.ntmps58
 go_wp2_with (first | ((with_reducible refine gate_dst (N := 2) rfl ?_); refine box_event ?hg (N := 2) ?hd (cs := subC L x) (t := 24) ?hr ?_; (case hd => rfl); (case hg => rfl); (case hr => first | (go_simp; done) | (go_simp; rfl)); intro gb hgb w1 hbox hbb; subst hgb; have HQ : Aside0 (HW w w1 L x) := ⟨⟨hbox, hbb⟩⟩; clear hbox hbb; obtain ⟨c0, c1, c2, c3, c4, c5, c6, c7, c8, c9, c10, c11⟩ := sub_at HQ.out.box))
 go_region_held3 (fun w' => w'.cell? ⟨w.heap.size, 2, none⟩ = some (.int .i64 x.im))
  (first | exact (sub_at HQ.out.box).2.2.1)
  (first | (go_at_call 80; (with_reducible refine (times1 _ _ _ ?r1 ?r2).mono ?_); (case r1 => omega); (case r2 => omega); rintro e w1 ⟨rfl, hb⟩; have nq := aMk ((aP124 : HW w _ L x).step hb); clear HQ hb; have HQ := nq; clear nq))
 clear hz0 hw0
 obtain ⟨c0, c1, c2, c3, c4, c5, c6, c7, c8, c9, c10, c11⟩ := sub_at HQ.out.box
 have H0 := aMk (show (repB 35 (n - x.im) ++ repB 48 x.im).data.toList = rawD x.im n 0 by
  simp only [ByteArray.data_append, Array.toList_append, repB_list]
  unfold rawD
  rw [show mx 0 x.im = x.im from aP125, show mn n x.im = x.im by unfold mn; split <;> omega, Int.sub_zero])
 generalize repB 35 (n - x.im) ++ repB 48 x.im = r0 at *
 go_upto_if 19 with (fail)
 go_cut [5] (fun v wc => ∃ r1 : ByteArray, v = .string r1 ∧ Aside0 (r1.data.toList = row1 x n) ∧ Aside0 (HW w wc L x))
 case first =>
  rcases Bool.eq_false_or_eq_true (decide (0 < x.se)) with t1 | t1
  case inr =>
   rw [t1]
   go_wp2
   go_meet
   case rel => exact ⟨r0, rfl, ⟨by rw [H0.out]; unfold row1; rw [if_neg (of_decide_eq_false t1)]⟩, HQ⟩
  rw [t1]
  have hs := of_decide_eq_true t1
  have HS := aMk hs
  obtain ⟨k, hk⟩ : ∃ k : Int, n - x.pr - x.se = k := ⟨_, rfl⟩
  have hw1 : IntKind.i64.wrap (n - x.pr) = n - x.pr := IntWalk.i64_in _ (by have := HN.out; omega)
  have hw2 : IntKind.i64.wrap (n - x.pr - x.se) = k := by rw [hk]; exact IntWalk.i64_in _ (by have := HN.out; omega)
  have k0 : 0 ≤ k := by have h1 := HN.out.2.2; have h2 := HF.out.ps; split at h1 <;> omega
  have hsz := size_list r0 _ H0.out
  have hrl := raw_len x.im n 0 i0 (by omega) (by omega)
  have k1 : k ≤ (r0.size : Int) := by omega
  have k2 : k.toNat ≤ r0.size := by omega
  have HL := aMk (show r0.data.toList = rawD x.im n (x.pr + x.se) ++ rawD x.im (x.pr + x.se) 0 by rw [H0.out]; exact raw_cut x.im n (x.pr + x.se) 0 i0 (by omega) (by omega) (by have h1 := HN.out.2.2; split at h1 <;> omega))
  have HK := aMk (show ((rawD x.im n (x.pr + x.se)).length : Int) = k by rw [raw_len x.im n (x.pr + x.se) i0 (by omega) (by have h1 := HN.out.2.2; split at h1 <;> omega)]; omega)
  have hc := comma_list r0 _ _ k HL.out HK.out
  have hsa : (r0.extract 0 k.toNat).size ≤ r0.size := aP99
  have hsb : (r0.extract k.toNat r0.size).size ≤ r0.size := aP99
  obtain ⟨a, ha⟩ : ∃ a, r0.extract 0 k.toNat = a := ⟨_, rfl⟩
  obtain ⟨b, hb⟩ : ∃ b, r0.extract k.toNat r0.size = b := ⟨_, rfl⟩
  rw [ha, hb] at hc
  rw [ha] at hsa
  rw [hb] at hsb
  have HC := aMk hc
  have z1 := eq_false (Nat.not_lt.2 (show a.size + 1 ≤ 9223372036854775807 by omega))
  have z2 := eq_false (Nat.not_lt.2 (show a.size + 1 + b.size ≤ 9223372036854775807 by omega))
  clear hc hsa hsb
  clear hs hk hsz hrl t1
  go_wp2
  go_quiet (fail)
  go_wp2
  go_meet
  case rel => exact ⟨_, rfl, ⟨by rw [HC.out]; unfold row1; rw [if_pos HS.out]⟩, ⟨HQ.out.drewN _⟩⟩
 case rest =>
  obtain ⟨r1, rfl, H1, HQ'⟩ := hcut
  clear H0 HQ c0 c1 c2 c3 c4 c5 c6 c7 c8 c9 c10 c11
  have HQ := HQ'
  clear HQ'
  obtain ⟨c0, c1, c2, c3, c4, c5, c6, c7, c8, c9, c10, c11⟩ := sub_at HQ.out.box
  go_upto_if 37 with (fail)
  obtain ⟨wo, rfl⟩ : ∃ wo : World, wo = wc := ⟨_, rfl⟩
  go_cut [5] (fun v wc => ∃ r2 : ByteArray, v = .string r2 ∧ Aside0 (r2.data.toList = placesL x n) ∧ Aside0 (HW w wc L x))
  case first =>
   rcases Bool.eq_false_or_eq_true (decide (0 < x.pr)) with t1 | t1
   case inr =>
    rw [t1]
    go_wp2
    go_meet
    case rel => exact ⟨r1, rfl, ⟨by rw [H1.out]; have h := of_decide_eq_false t1; have h2 := HF.out.ps; unfold row1 placesL; rw [if_neg h, if_neg (by omega)]⟩, HQ⟩
   rw [t1]
   have HS := aMk (of_decide_eq_true t1)
   have hN := HN.out.2.2
   rw [if_pos HS.out] at hN
   obtain ⟨u, hu⟩ : ∃ u, (if 0 < x.se then rawD x.im n (x.pr + x.se) ++ [44] ++ rawD x.im (x.pr + x.se) x.pr else rawD x.im n x.pr) = u := ⟨_, rfl⟩
   have hrow : row1 x n = u ++ rawD x.im x.pr 0 := by
    rw [← hu]
    unfold row1
    split
    ·rw [raw_cut x.im (x.pr + x.se) x.pr 0 i0 (by omega) (by omega) (by omega)]; simp only [List.append_assoc]
    ·exact raw_cut x.im n x.pr 0 i0 (by omega) (by omega) (by omega)
   have hpl : placesL x n = u ++ [44] ++ rawD x.im x.pr 0 := by
    rw [← hu]
    unfold placesL
    rw [if_pos HS.out]
    split
    ·rfl
    ·rfl
   have hsz := size_list r1 _ H1.out
   rw [hrow, List.length_append] at hsz
   have hrl := raw_len x.im x.pr 0 i0 (by omega) (by omega)
   have hbig : u.length ≤ 400 := by
    rw [← hu]
    split
    ·have e1 := raw_len x.im n (x.pr + x.se) i0 (by omega) (by omega)
     have e2 := raw_len x.im (x.pr + x.se) x.pr i0 (by omega) (by omega)
     simp only [List.length_append, List.length_cons, List.length_nil]
     omega
    ·have e1 := raw_len x.im n x.pr i0 (by omega) (by omega)
     omega
   obtain ⟨k, hk⟩ : ∃ k : Int, (r1.size : Int) - x.pr = k := ⟨_, rfl⟩
   have hw1 : IntKind.i64.wrap ((r1.size : Int) - x.pr) = k := by rw [hk]; exact IntWalk.i64_in _ (by omega)
   have k0 : 0 ≤ k := by omega
   have k1 : k ≤ (r1.size : Int) := by omega
   have k2 : k.toNat ≤ r1.size := by omega
   have hc := comma_list r1 u (rawD x.im x.pr 0) k (by rw [H1.out, hrow]) (by omega)
   have hsa : (r1.extract 0 k.toNat).size ≤ r1.size := aP99
   have hsb : (r1.extract k.toNat r1.size).size ≤ r1.size := aP99
   obtain ⟨a, ha⟩ : ∃ a, r1.extract 0 k.toNat = a := ⟨_, rfl⟩
   obtain ⟨b, hb⟩ : ∃ b, r1.extract k.toNat r1.size = b := ⟨_, rfl⟩
   rw [ha, hb] at hc
   rw [ha] at hsa
   rw [hb] at hsb
   have HC := aMk (hc.trans hpl.symm)
   have z1 := eq_false (Nat.not_lt.2 (show a.size + 1 ≤ 9223372036854775807 by omega))
   have z2 := eq_false (Nat.not_lt.2 (show a.size + 1 + b.size ≤ 9223372036854775807 by omega))
   clear hc hsa hsb hk hsz hrl t1 hu hrow hpl hN hbig
   go_wp2
   go_quiet (fail)
   go_wp2
   go_meet
   case rel => exact ⟨_, rfl, ⟨HC.out⟩, ⟨HQ.out.drewN _⟩⟩
  case rest =>
   obtain ⟨r2, rfl, H2, HQ'⟩ := hcut
   clear H1 HQ c0 c1 c2 c3 c4 c5 c6 c7 c8 c9 c10 c11
   have HQ := HQ'
   clear HQ'
   obtain ⟨c0, c1, c2, c3, c4, c5, c6, c7, c8, c9, c10, c11⟩ := sub_at HQ.out.box
   have HZ := aMk (show r2.size ≤ 300 by
    have h1 := size_list r2 _ H2.out
    have h2 := (dig_size x n HF.out HLE.out.1 HLE.out.2).2
    unfold digL at h2
    simp only [List.length_append] at h2
    omega)
   go_upto_if 53 with (fail)
   obtain ⟨wp, rfl⟩ : ∃ wp : World, wp = wc := ⟨_, rfl⟩
   go_cut [5] (fun v wc => ∃ r3 : ByteArray, v = .string r3 ∧ Aside0 (r3.data.toList = placesL x n ++ fracL x) ∧ Aside0 (HW w wc L x))
   case first =>
    rcases Bool.eq_false_or_eq_true (decide (0 < x.fx)) with t1 | t1
    case inr =>
     rw [t1]
     go_wp2
     go_meet
     case rel => exact ⟨r2, rfl, ⟨by rw [H2.out]; have h := of_decide_eq_false t1; unfold fracL; rw [if_neg h, List.append_nil]⟩, HQ⟩
    rw [t1]
    have HS := aMk (of_decide_eq_true t1)
    have hw1 : IntKind.i64.wrap (x.fx - x.fn) = x.fx - x.fn := IntWalk.i64_in _ (by omega)
    have z1 := eq_false (Nat.not_lt.2 (show 1 + (repB 48 x.fn).size ≤ 9223372036854775807 by rw [repB_size]; omega))
    have z2 := eq_false (Nat.not_lt.2 (show 1 + (repB 48 x.fn).size + (repB 35 (x.fx - x.fn)).size ≤ 9223372036854775807 by rw [repB_size, repB_size]; omega))
    have z3 := eq_false (Nat.not_lt.2 (show r2.size + (1 + (repB 48 x.fn).size + (repB 35 (x.fx - x.fn)).size) ≤ 9223372036854775807 by rw [repB_size, repB_size]; have := HZ.out; omega))
    clear t1
    go_wp2_with fail
    go_region_held3 (fun w' => w'.cell? ⟨w.heap.size, 3, none⟩ = some (.int .i64 x.fn) ∧ w'.cell? ⟨w.heap.size, 4, none⟩ = some (.int .i64 x.fx))
     (first | exact ⟨(sub_at HQ.out.box).2.2.2.1, (sub_at HQ.out.box).2.2.2.2.1⟩)
     (first | (go_at_call 80; (with_reducible refine (times1 _ _ _ ?r1 ?r2).mono ?_); (case r1 => omega); (case r2 => omega); rintro e w1 ⟨rfl, hb⟩; have nq := aMk ((aP124 : HW w _ L x).step hb); clear HQ hb; have HQ := nq; clear nq))
    go_wp2
    go_meet
    case rel => exact ⟨_, rfl, ⟨by simp only [ByteArray.data_append, Array.toList_append, repB_list, H2.out]; unfold fracL; rw [if_pos HS.out]⟩, HQ⟩
   case rest =>
    obtain ⟨r3, rfl, H3, HQ'⟩ := hcut
    clear H2 HQ c0 c1 c2 c3 c4 c5 c6 c7 c8 c9 c10 c11
    have HQ := HQ'
    clear HQ'
    obtain ⟨c0, c1, c2, c3, c4, c5, c6, c7, c8, c9, c10, c11⟩ := sub_at HQ.out.box
    have hz : r3.size ≤ 300 := by
     have h1 := size_list r3 _ H3.out
     have h2 := (dig_size x n HF.out HLE.out.1 HLE.out.2).2
     unfold digL at h2
     simp only [List.length_append] at h1 h2
     omega
    have z1 := eq_false (Nat.not_lt.2 (show r3.size + 1 ≤ 9223372036854775807 by omega))
    have z2 := eq_false (Nat.not_lt.2 (show r3.size + 1 + 1 ≤ 9223372036854775807 by omega))
    have z3 := eq_false (Nat.not_lt.2 (show r3.size + 1 + (repB 48 x.em).size ≤ 9223372036854775807 by rw [repB_size]; omega))
    have z4 := eq_false (Nat.not_lt.2 (show r3.size + 1 + 1 + (repB 48 x.em).size ≤ 9223372036854775807 by rw [repB_size]; omega))
    clear hz
    rcases Bool.eq_false_or_eq_true (decide (0 < x.em)) with t2 | t2
    all_goals rcases Bool.eq_false_or_eq_true x.ep with t3 | t3
    all_goals
     go_wp2_with (first | (go_at_call 80; (with_reducible refine (times1 _ _ _ ?r1 ?r2).mono ?_); (case r1 => omega); (case r2 => omega); rintro e w1 ⟨rfl, hb⟩; have nq := aMk (HQ.out.step hb); clear HQ hb; have HQ := nq; clear nq; obtain ⟨c0, c1, c2, c3, c4, c5, c6, c7, c8, c9, c10, c11⟩ := sub_at HQ.out.box))
     go_ret
     refine ⟨ret_str (bytes_inj ?_), HQ.out.below⟩
     simp only [decide_eq_true_eq, decide_eq_false_iff_not] at t2
     simp [ByteArray.data_append, repB_list, H3.out, digS, digL, expL, t2, t3]
theorem in_ways {a c : Int} (h : inB a 0 c = true) : decide (a < 0) = false ∧ decide (c < a) = false := by
 simp [inB] at h
 exact ⟨dFa (by omega), dFa (by omega)⟩
theorem out_ways {a c : Int} (h : inB a 0 c = false) : decide (a < 0) = true ∨ (decide (a < 0) = false ∧ decide (c < a) = true) := by
 unfold inB at h
 by_cases h1 : a < 0
 ·exact .inl (dTr h1)
 ·refine .inr ⟨dFa h1, dTr ?_⟩
  rw [dTr (show 0 ≤ a by omega), Bool.true_and] at h
  have := of_decide_eq_false h
  omega
theorem fine_parts {x : Sb} (h : fineB x = true) : inB x.pr 0 16 = true ∧ inB x.em 0 9 = true := by
 simp only [fineB, Bool.and_eq_true] at h
 exact ⟨h.2.2.2.1, h.2.2.2.2.2⟩
noncomputable def placeB (x : Sb) : Bool := runesS x.pad == 1 && (inB x.pa 0 3 && !edgeB x)
set_option maxHeartbeats 16000000 in
set_option maxRecDepth 100000 in
theorem rhalf_calls (L : Sl) (x : Sb) (w : World) (hr : SubOk w L x) : Calls Try.prog 31 #[subV L x] w fun e w' => e = .returned (.bool (halfS x)) ∧ Below w.heap.size w w' := by
 have HR := aMk hr
 clear hr
 rcases Bool.eq_false_or_eq_true (checkS x.p == 0) with k1 | k1
 case inr =>
  have k1' := neq_of k1
  have HE := aMk (show halfS x = false by simp [halfS, k1])
  go_enter Try.func31, Try.ntmps31
  go_wp2_with (first | ((with_reducible refine gate_dst (N := 1) rfl ?_); refine box_event ?hg (N := 1) ?hd (cs := subC L x) (t := 24) ?hr ?_; (case hd => rfl); (case hg => rfl); (case hr => first | (go_simp; done) | (go_simp; rfl)); intro gb hgb w1 hbox hbb; subst hgb; have HQ : Aside0 (HW w w1 L x) := ⟨⟨hbox, hbb⟩⟩; clear hbox hbb; obtain ⟨c0, c1, c2, c3, c4, c5, c6, c7, c8, c9, c10, c11⟩ := sub_at HQ.out.box) | (go_at_call 55; (with_reducible refine (rcheck_calls L.A L.c x.p _ (Kd.C_below HR.out.r.p HQ.out.below) HR.out.r.pc HR.out.p).mono ?_); rintro e w1 ⟨rfl, hb⟩; have nq := aMk (HQ.out.step hb); clear HQ hb; have HQ := nq; clear nq; obtain ⟨c0, c1, c2, c3, c4, c5, c6, c7, c8, c9, c10, c11⟩ := sub_at HQ.out.box))
  go_ret
  exact ⟨ret_bool HE.out.symm, HQ.out.below⟩
 have k1' := neq_of k1
 rcases Bool.eq_false_or_eq_true (checkS x.s == 0) with k2 | k2
 case inr =>
  have k2' := neq_of k2
  have HE := aMk (show halfS x = false by simp [halfS, k2])
  go_enter Try.func31, Try.ntmps31
  go_wp2_with (first | ((with_reducible refine gate_dst (N := 1) rfl ?_); refine box_event ?hg (N := 1) ?hd (cs := subC L x) (t := 24) ?hr ?_; (case hd => rfl); (case hg => rfl); (case hr => first | (go_simp; done) | (go_simp; rfl)); intro gb hgb w1 hbox hbb; subst hgb; have HQ : Aside0 (HW w w1 L x) := ⟨⟨hbox, hbb⟩⟩; clear hbox hbb; obtain ⟨c0, c1, c2, c3, c4, c5, c6, c7, c8, c9, c10, c11⟩ := sub_at HQ.out.box) | (go_at_call 55; (with_reducible refine (rcheck_calls L.A L.c x.p _ (Kd.C_below HR.out.r.p HQ.out.below) HR.out.r.pc HR.out.p).mono ?_); rintro e w1 ⟨rfl, hb⟩; have nq := aMk (HQ.out.step hb); clear HQ hb; have HQ := nq; clear nq; obtain ⟨c0, c1, c2, c3, c4, c5, c6, c7, c8, c9, c10, c11⟩ := sub_at HQ.out.box) | (go_at_call 55; (with_reducible refine (rcheck_calls L.B L.d x.s _ (Kd.C_below HR.out.r.s HQ.out.below) HR.out.r.sc HR.out.s).mono ?_); rintro e w1 ⟨rfl, hb⟩; have nq := aMk (HQ.out.step hb); clear HQ hb; have HQ := nq; clear nq; obtain ⟨c0, c1, c2, c3, c4, c5, c6, c7, c8, c9, c10, c11⟩ := sub_at HQ.out.box))
  go_ret
  exact ⟨ret_bool HE.out.symm, HQ.out.below⟩
 have k2' := neq_of k2
 have HK := aMk (And.intro (beq_iff_eq.mp k1) (beq_iff_eq.mp k2))
 have HE := aMk (show halfS x = (fineB x && (!oddB x && padB x)) by simp [halfS, k1, k2])
 go_enter Try.func31, Try.ntmps31
 go_upto_region 3 with (first | ((with_reducible refine gate_dst (N := 1) rfl ?_); refine box_event ?hg (N := 1) ?hd (cs := subC L x) (t := 24) ?hr ?_; (case hd => rfl); (case hg => rfl); (case hr => first | (go_simp; done) | (go_simp; rfl)); intro gb hgb w1 hbox hbb; subst hgb; have HQ : Aside0 (HW w w1 L x) := ⟨⟨hbox, hbb⟩⟩; clear hbox hbb; obtain ⟨c0, c1, c2, c3, c4, c5, c6, c7, c8, c9, c10, c11⟩ := sub_at HQ.out.box) | (go_at_call 55; (with_reducible refine (rcheck_calls L.A L.c x.p _ (Kd.C_below HR.out.r.p HQ.out.below) HR.out.r.pc HR.out.p).mono ?_); rintro e w1 ⟨rfl, hb⟩; have nq := aMk (HQ.out.step hb); clear HQ hb; have HQ := nq; clear nq; obtain ⟨c0, c1, c2, c3, c4, c5, c6, c7, c8, c9, c10, c11⟩ := sub_at HQ.out.box) | (go_at_call 55; (with_reducible refine (rcheck_calls L.B L.d x.s _ (Kd.C_below HR.out.r.s HQ.out.below) HR.out.r.sc HR.out.s).mono ?_); rintro e w1 ⟨rfl, hb⟩; have nq := aMk (HQ.out.step hb); clear HQ hb; have HQ := nq; clear nq; obtain ⟨c0, c1, c2, c3, c4, c5, c6, c7, c8, c9, c10, c11⟩ := sub_at HQ.out.box))
 go_cut [3] (fun v wc => v = .bool (fineB x) ∧ Aside0 (HW w wc L x))
 case first =>
  clear k1 k1' k2 k2'
  rcases Bool.eq_false_or_eq_true (inB x.im 0 32) with f0 | f0
  case inr => (go_wp2_with (first | (go_at_call 56; (with_reducible refine (within_calls _ _ _ _).mono ?_); rintro e w1 ⟨rfl, rfl⟩)); go_meet; (case rel => exact ⟨by simp [fineB, *], HQ⟩))
  rcases Bool.eq_false_or_eq_true (inB x.fx 0 32) with f1 | f1
  case inr => (go_wp2_with (first | (go_at_call 56; (with_reducible refine (within_calls _ _ _ _).mono ?_); rintro e w1 ⟨rfl, rfl⟩)); go_meet; (case rel => exact ⟨by simp [fineB, *], HQ⟩))
  rcases Bool.eq_false_or_eq_true (inB x.fn 0 x.fx) with f2 | f2
  case inr => (go_wp2_with (first | (go_at_call 56; (with_reducible refine (within_calls _ _ _ _).mono ?_); rintro e w1 ⟨rfl, rfl⟩)); go_meet; (case rel => exact ⟨by simp [fineB, *], HQ⟩))
  rcases Bool.eq_false_or_eq_true (inB x.pr 0 16) with f3 | f3
  case inr => (go_wp2_with (first | (go_at_call 56; (with_reducible refine (within_calls _ _ _ _).mono ?_); rintro e w1 ⟨rfl, rfl⟩)); go_meet; (case rel => exact ⟨by simp [fineB, *], HQ⟩))
  rcases Bool.eq_false_or_eq_true (inB x.se 0 16) with f4 | f4
  case inr => (go_wp2_with (first | (go_at_call 56; (with_reducible refine (within_calls _ _ _ _).mono ?_); rintro e w1 ⟨rfl, rfl⟩)); go_meet; (case rel => exact ⟨by simp [fineB, *], HQ⟩))
  (go_wp2_with (first | (go_at_call 56; (with_reducible refine (within_calls _ _ _ _).mono ?_); rintro e w1 ⟨rfl, rfl⟩)); go_meet; (case rel => exact ⟨by simp [fineB, *], HQ⟩))
 case rest =>
  obtain ⟨rfl, HQ'⟩ := hcut
  clear HQ c0 c1 c2 c3 c4 c5 c6 c7 c8 c9 c10 c11
  have HQ := HQ'
  clear HQ'
  obtain ⟨c0, c1, c2, c3, c4, c5, c6, c7, c8, c9, c10, c11⟩ := sub_at HQ.out.box
  rcases Bool.eq_false_or_eq_true (fineB x) with f0 | f0
  case inr =>
   rw [f0]
   go_wp2
   go_ret
   exact ⟨ret_bool (by rw [HE.out, f0]; rfl), HQ.out.below⟩
  rw [f0]
  have HE2 := aMk (show halfS x = (!oddB x && padB x) by rw [HE.out, f0]; rfl)
  have HF := aMk f0
  clear HE k1 k1' k2 k2'
  go_upto_region 4 with (fail)
  go_cut [75] (fun v wc => v = .bool (oddB x) ∧ Aside0 (HW w wc L x))
  case first =>
   have hp := pos_of (fine_parts HF.out).1
   have he := pos_of (fine_parts HF.out).2
   clear f0
   exact aP55
  case rest =>
   obtain ⟨rfl, HQ'⟩ := hcut
   clear HQ c0 c1 c2 c3 c4 c5 c6 c7 c8 c9 c10 c11
   have HQ := HQ'
   clear HQ'
   obtain ⟨c0, c1, c2, c3, c4, c5, c6, c7, c8, c9, c10, c11⟩ := sub_at HQ.out.box
   rcases Bool.eq_false_or_eq_true (oddB x) with o1 | o1
   case inl =>
    rw [o1]
    go_wp2
    go_ret
    exact ⟨ret_bool (by rw [HE2.out, o1]; rfl), HQ.out.below⟩
   rw [o1]
   have HFI := aMk (fine_of HF.out o1)
   have HE3 := aMk (show halfS x = padB x by rw [HE2.out, o1]; rfl)
   have HLE := aMk (least_le HFI.out)
   clear HE2 f0
   rcases Bool.eq_false_or_eq_true x.pad.toList.isEmpty with p1 | p1
   case inl =>
    have HP := aMk (show padB x = (x.pa == 0 && x.wd == 0) by unfold padB; rw [if_pos p1])
    rcases Bool.eq_false_or_eq_true (x.pa == 0) with p2 | p2
    all_goals
     go_wp2
     go_ret
     exact ⟨ret_bool (by rw [HE3.out, HP.out, p2]; simp), HQ.out.below⟩
   have HP := aMk (show padB x = (placeB x && inB x.wd (lengthS x (leastS x)) 99) by unfold padB placeB; rw [if_neg (by rw [p1]; decide)]; simp only [Bool.and_assoc])
   go_upto_region 8 with (fail)
   go_cut [122] (fun v wc => v = .bool (!placeB x) ∧ Aside0 (HW w wc L x))
   case first =>
    rcases Bool.eq_false_or_eq_true (runesS x.pad == 1) with p2 | p2
    case inr =>
     have p2' : (runesS x.pad != 1) = true := by rw [bne, p2]; rfl
     go_wp2_with (first | (go_at_call 57; (with_reducible refine (rrunes_calls x.pad _ HR.out.pad).mono ?_); rintro e w1 ⟨rfl, hb⟩; have nq := aMk (HQ.out.step hb); clear HQ hb; have HQ := nq; clear nq; obtain ⟨c0, c1, c2, c3, c4, c5, c6, c7, c8, c9, c10, c11⟩ := sub_at HQ.out.box))
     go_meet
     case rel => exact ⟨by simp [placeB, p2], HQ⟩
    have p2' : (runesS x.pad != 1) = false := by rw [bne, p2]; rfl
    rcases Bool.eq_false_or_eq_true (inB x.pa 0 3) with p3 | p3
    case inr =>
     rcases out_ways p3 with q1 | ⟨q1, q2⟩
     all_goals
      go_wp2_with (first | (go_at_call 57; (with_reducible refine (rrunes_calls x.pad _ HR.out.pad).mono ?_); rintro e w1 ⟨rfl, hb⟩; have nq := aMk (HQ.out.step hb); clear HQ hb; have HQ := nq; clear nq; obtain ⟨c0, c1, c2, c3, c4, c5, c6, c7, c8, c9, c10, c11⟩ := sub_at HQ.out.box))
      go_meet
      case rel => exact ⟨by simp [placeB, p3], HQ⟩
    obtain ⟨q1, q2⟩ := in_ways p3
    have e1 := int_len x.p.length
    have e2 := int_len x.s.length
    rcases Bool.eq_false_or_eq_true (x.pa == 1) with t1 | t1
    all_goals rcases Bool.eq_false_or_eq_true (x.p.length == 0) with t2 | t2
    all_goals rcases Bool.eq_false_or_eq_true (x.pa == 3) with t3 | t3
    all_goals rcases Bool.eq_false_or_eq_true (x.s.length == 0) with t4 | t4
    all_goals
     go_wp2_with (first | (go_at_call 57; (with_reducible refine (rrunes_calls x.pad _ HR.out.pad).mono ?_); rintro e w1 ⟨rfl, hb⟩; have nq := aMk (HQ.out.step hb); clear HQ hb; have HQ := nq; clear nq; obtain ⟨c0, c1, c2, c3, c4, c5, c6, c7, c8, c9, c10, c11⟩ := sub_at HQ.out.box))
     go_meet
     case rel => exact ⟨by simp [placeB, edgeB, p2, p3, t1, t2, t3, t4], HQ⟩
   case rest =>
    obtain ⟨rfl, HQ'⟩ := hcut
    clear HQ c0 c1 c2 c3 c4 c5 c6 c7 c8 c9 c10 c11
    have HQ := HQ'
    clear HQ'
    obtain ⟨c0, c1, c2, c3, c4, c5, c6, c7, c8, c9, c10, c11⟩ := sub_at HQ.out.box
    rcases Bool.eq_false_or_eq_true (placeB x) with o2 | o2
    case inr =>
     rw [o2, Bool.not_false]
     go_wp2
     go_ret
     exact ⟨ret_bool (by rw [HE3.out, HP.out, o2]; rfl), HQ.out.below⟩
    rw [o2, Bool.not_true]
    have HS := aMk (dig_size x (leastS x) HFI.out (Int.le_refl _) HLE.out)
    have HL := aMk (And.intro (runesT_range x.p HK.out.1 HR.out.p) (runesT_range x.s HK.out.2 HR.out.s))
    have hw1 : IntKind.i64.wrap (runesT x.p + ((digS x (leastS x)).size : Int)) = runesT x.p + ((digL x (leastS x)).length : Int) := aP126
    have hw2 : IntKind.i64.wrap (runesT x.p + ((digL x (leastS x)).length : Int) + runesT x.s) = lengthS x (leastS x) := IntWalk.i64_in _ (aP127)
    clear c0 c1 c2 c3 c4 c5 c6 c7 c8 c9 c10 c11
    go_wp2_with fail
    go_region_held3 (fun w' => w'.cell? ⟨w.heap.size, 0, none⟩ = some (.slice L.A x.p.length L.c) ∧ w'.cell? ⟨w.heap.size, 1, none⟩ = some (.slice L.B x.s.length L.d) ∧ w'.cell? ⟨w.heap.size, 2, none⟩ = some (.int .i64 x.im) ∧ w'.cell? ⟨w.heap.size, 3, none⟩ = some (.int .i64 x.fn) ∧ w'.cell? ⟨w.heap.size, 4, none⟩ = some (.int .i64 x.fx) ∧ w'.cell? ⟨w.heap.size, 5, none⟩ = some (.int .i64 x.pr) ∧ w'.cell? ⟨w.heap.size, 6, none⟩ = some (.int .i64 x.se) ∧ w'.cell? ⟨w.heap.size, 7, none⟩ = some (.int .i64 x.em) ∧ w'.cell? ⟨w.heap.size, 8, none⟩ = some (.bool x.ep) ∧ w'.cell? ⟨w.heap.size, 9, none⟩ = some (.string x.pad) ∧ w'.cell? ⟨w.heap.size, 10, none⟩ = some (.int .i64 x.pa) ∧ w'.cell? ⟨w.heap.size, 11, none⟩ = some (.int .i64 x.wd))
     (first | exact sub_at HQ.out.box)
     (first | (go_at_call 52; (with_reducible refine (rtruns_calls L.A L.c x.p _ (Kd.C_below HR.out.r.p (aP130)) HR.out.r.pc HR.out.p HK.out.1).mono ?_); rintro e w1 ⟨rfl, hb⟩; have nq := aMk ((aP124 : HW w _ L x).step hb); clear HQ hb; have HQ := nq; clear nq) | (go_at_call 52; (with_reducible refine (rtruns_calls L.B L.d x.s _ (Kd.C_below HR.out.r.s (aP130)) HR.out.r.sc HR.out.s HK.out.2).mono ?_); rintro e w1 ⟨rfl, hb⟩; have nq := aMk ((aP124 : HW w _ L x).step hb); clear HQ hb; have HQ := nq; clear nq) | (go_at_call 59; (with_reducible refine (rleast_calls L x _ HFI.out).mono ?_); rintro e w1 ⟨rfl, hb⟩; have nq := aMk ((aP124 : HW w _ L x).step hb); clear HQ hb; have HQ := nq; clear nq) | (go_at_call 58; (with_reducible refine (rdigits_calls L x (leastS x) _ HFI.out (Int.le_refl _) HLE.out).mono ?_); rintro e w1 ⟨rfl, hb⟩; have nq := aMk ((aP124 : HW w _ L x).step hb); clear HQ hb; have HQ := nq; clear nq))
    obtain ⟨c0, c1, c2, c3, c4, c5, c6, c7, c8, c9, c10, c11⟩ := sub_at HQ.out.box
    go_wp2_with (first | (go_at_call 56; (with_reducible refine (within_calls _ _ _ _).mono ?_); rintro e w1 ⟨rfl, rfl⟩))
    go_ret
    exact ⟨ret_bool (by rw [HE3.out, HP.out, o2]; rfl), HQ.out.below⟩
def fillT (x : Sb) : ByteArray := if x.pad.toList.isEmpty then ⟨#[]⟩ else ⟨#[42]⟩ ++ x.pad
theorem fillT_size (x : Sb) (h : x.pad.size ≤ 281474976710656) : (fillT x).size ≤ 281474976710657 := by
 unfold fillT
 split
 ·exact Nat.zero_le _
 ·rw [ByteArray.size_append]; show 1 + x.pad.size ≤ _; omega
theorem fill_at {x : Sb} (k : Int) (h : x.pa = k) : fillS x k = fillT x := by
 unfold fillS fillT
 rw [if_pos h]
theorem fill_off {x : Sb} (k : Int) (h : x.pa ≠ k) : fillS x k = ⟨#[]⟩ := by
 unfold fillS
 rw [if_neg h]
 split <;> rfl
theorem text_ways (x : Sb) (p d s : ByteArray) (hp : (printT x.p).1 = p) (hd : digS x (wideS x) = d) (hs : (printT x.s).1 = s) :
  (x.pa = 0 → fillT x ++ p ++ d ++ s = textS x) ∧ (x.pa = 1 → p ++ fillT x ++ d ++ s = textS x) ∧ (x.pa = 2 → p ++ d ++ fillT x ++ s = textS x) ∧ (x.pa = 3 → p ++ d ++ s ++ fillT x = textS x) := by
 subst hp hd hs
 unfold textS
 refine ⟨fun h => ?_, fun h => ?_, fun h => ?_, fun h => ?_⟩
 ·rw [fill_at 0 h, fill_off 1 (by omega), fill_off 2 (by omega), fill_off 3 (by omega)]
  apply bytes_inj; simp [ByteArray.data_append]
 ·rw [fill_off 0 (by omega), fill_at 1 h, fill_off 2 (by omega), fill_off 3 (by omega)]
  apply bytes_inj; simp [ByteArray.data_append]
 ·rw [fill_off 0 (by omega), fill_off 1 (by omega), fill_at 2 h, fill_off 3 (by omega)]
  apply bytes_inj; simp [ByteArray.data_append]
 ·rw [fill_off 0 (by omega), fill_off 1 (by omega), fill_off 2 (by omega), fill_at 3 h]
  apply bytes_inj; simp [ByteArray.data_append]
set_option maxHeartbeats 16000000 in
set_option maxRecDepth 100000 in
theorem rtext_calls (L : Sl) (x : Sb) (w : World) (hr : SubOk w L x) (hg : Good x) : Calls Try.prog 32 #[subV L x] w fun e w' => e = .returned (.string (textS x)) ∧ Below w.heap.size w w' := by
 have HR := aMk hr
 have HX := aMk hg
 have HFI := aMk hg.fine
 have HK := aMk (And.intro hg.cp hg.cs)
 have HLE := aMk (least_le hg.fine)
 clear hr hg
 go_enter Try.func32, Try.ntmps32
 go_upto_if 15 with (first | ((with_reducible refine gate_dst (N := 1) rfl ?_); refine box_event ?hg (N := 1) ?hd (cs := subC L x) (t := 24) ?hr ?_; (case hd => rfl); (case hg => rfl); (case hr => first | (go_simp; done) | (go_simp; rfl)); intro gb hgb w1 hbox hbb; subst hgb; have HQ : Aside0 (HW w w1 L x) := ⟨⟨hbox, hbb⟩⟩; clear hbox hbb; obtain ⟨c0, c1, c2, c3, c4, c5, c6, c7, c8, c9, c10, c11⟩ := sub_at HQ.out.box) | (go_at_call 59; (with_reducible refine (rleast_calls L x _ HFI.out).mono ?_); rintro e w1 ⟨rfl, hb⟩; have nq := aMk (HQ.out.step hb); clear HQ hb; have HQ := nq; clear nq; obtain ⟨c0, c1, c2, c3, c4, c5, c6, c7, c8, c9, c10, c11⟩ := sub_at HQ.out.box))
 go_cut [3, 4] (fun v v4 wc => v = .int .i64 (wideS x) ∧ v4 = .string (fillT x) ∧ Aside0 (HW w wc L x))
 case first =>
  rcases Bool.eq_false_or_eq_true x.pad.toList.isEmpty with p1 | p1
  case inl =>
   have HE := aMk (show wideS x = leastS x by unfold wideS; rw [if_pos p1])
   have HE2 := aMk (show fillT x = ⟨#[]⟩ by unfold fillT; rw [if_pos p1])
   rw [p1, Bool.not_true]
   go_wp2
   go_meet
   case rel => exact ⟨by rw [HE.out], by rw [HE2.out], HQ⟩
  have HE2 := aMk (show fillT x = ⟨#[42]⟩ ++ x.pad by unfold fillT; rw [if_neg (by rw [p1]; decide)])
  rw [p1, Bool.not_false]
  have HS := aMk (dig_size x (leastS x) HFI.out (Int.le_refl _) HLE.out)
  have HL := aMk (And.intro (runesT_range x.p HK.out.1 HR.out.p) (runesT_range x.s HK.out.2 HR.out.s))
  have hw1 : IntKind.i64.wrap (runesT x.p + ((digS x (leastS x)).size : Int)) = runesT x.p + ((digL x (leastS x)).length : Int) := aP126
  have hw2 : IntKind.i64.wrap (runesT x.p + ((digL x (leastS x)).length : Int) + runesT x.s) = lengthS x (leastS x) := IntWalk.i64_in _ (aP127)
  have hw3 : IntKind.i64.wrap (x.wd - lengthS x (leastS x)) = x.wd - lengthS x (leastS x) := IntWalk.i64_in _ (by have h1 := HX.out.len1 p1; have h2 := HX.out.len0; omega)
  have hw4 : IntKind.i64.wrap (leastS x + (x.wd - lengthS x (leastS x))) = wideS x := by
   rw [show wideS x = leastS x + (x.wd - lengthS x (leastS x)) by unfold wideS; rw [if_neg (by rw [p1]; decide)]]
   exact IntWalk.i64_in _ (by have h1 := HX.out.len1 p1; have h2 := HX.out.len0; have h4 := HLE.out; have h5 : 1 ≤ leastS x := (aP123); omega)
  have hz := eq_false (Nat.not_lt.2 (show 1 + x.pad.size ≤ 9223372036854775807 by have := HR.out.pad; omega))
  clear c0 c1 c2 c3 c4 c5 c6 c7 c8 c9 c10 c11
  go_wp2_with fail
  go_region_held3 (fun w' => w'.cell? ⟨w.heap.size, 0, none⟩ = some (.slice L.A x.p.length L.c) ∧ w'.cell? ⟨w.heap.size, 1, none⟩ = some (.slice L.B x.s.length L.d) ∧ w'.cell? ⟨w.heap.size, 2, none⟩ = some (.int .i64 x.im) ∧ w'.cell? ⟨w.heap.size, 3, none⟩ = some (.int .i64 x.fn) ∧ w'.cell? ⟨w.heap.size, 4, none⟩ = some (.int .i64 x.fx) ∧ w'.cell? ⟨w.heap.size, 5, none⟩ = some (.int .i64 x.pr) ∧ w'.cell? ⟨w.heap.size, 6, none⟩ = some (.int .i64 x.se) ∧ w'.cell? ⟨w.heap.size, 7, none⟩ = some (.int .i64 x.em) ∧ w'.cell? ⟨w.heap.size, 8, none⟩ = some (.bool x.ep) ∧ w'.cell? ⟨w.heap.size, 9, none⟩ = some (.string x.pad) ∧ w'.cell? ⟨w.heap.size, 10, none⟩ = some (.int .i64 x.pa) ∧ w'.cell? ⟨w.heap.size, 11, none⟩ = some (.int .i64 x.wd))
   (first | exact sub_at HQ.out.box)
   (first | (go_at_call 52; (with_reducible refine (rtruns_calls L.A L.c x.p _ (Kd.C_below HR.out.r.p (aP130)) HR.out.r.pc HR.out.p HK.out.1).mono ?_); rintro e w1 ⟨rfl, hb⟩; have nq := aMk ((aP124 : HW w _ L x).step hb); clear HQ hb; have HQ := nq; clear nq) | (go_at_call 52; (with_reducible refine (rtruns_calls L.B L.d x.s _ (Kd.C_below HR.out.r.s (aP130)) HR.out.r.sc HR.out.s HK.out.2).mono ?_); rintro e w1 ⟨rfl, hb⟩; have nq := aMk ((aP124 : HW w _ L x).step hb); clear HQ hb; have HQ := nq; clear nq) | (go_at_call 58; (with_reducible refine (rdigits_calls L x (leastS x) _ HFI.out (Int.le_refl _) HLE.out).mono ?_); rintro e w1 ⟨rfl, hb⟩; have nq := aMk ((aP124 : HW w _ L x).step hb); clear HQ hb; have HQ := nq; clear nq))
  obtain ⟨c0, c1, c2, c3, c4, c5, c6, c7, c8, c9, c10, c11⟩ := sub_at HQ.out.box
  go_wp2
  go_meet
  case rel => exact ⟨rfl, by rw [HE2.out], HQ⟩
 case rest =>
  obtain ⟨rfl, rfl, HQ'⟩ := hcut
  clear HQ c0 c1 c2 c3 c4 c5 c6 c7 c8 c9 c10 c11
  have HQ := HQ'
  clear HQ'
  obtain ⟨c0, c1, c2, c3, c4, c5, c6, c7, c8, c9, c10, c11⟩ := sub_at HQ.out.box
  have HT := aMk (text_ways x _ _ _ rfl rfl rfl)
  have a0 := fillT_size x HR.out.pad
  have b0 := print_size x.p HR.out.p
  have b1 := print_size x.s HR.out.s
  have d := dig_size x (wideS x) HFI.out HX.out.wide0 HX.out.wide1
  have q0 := HX.out.pa0
  have q1 := HX.out.pa1
  have hpa : x.pa = 0 ∨ x.pa = 1 ∨ x.pa = 2 ∨ x.pa = 3 := by omega
  rcases hpa with e | e | e | e
  case inl =>
   have HT0 := aMk (HT.out.1 e)
   have t1 : (x.pa == 1) = false := beF (by omega)
   have t2 : (x.pa == 2) = false := beF (by omega)
   have t3 : (x.pa == 3) = false := beF (by omega)
   have z1 := eq_false (Nat.not_lt.2 (show (fillT x).size + (printT x.p).1.size ≤ 9223372036854775807 by omega))
   have z2 := eq_false (Nat.not_lt.2 (show (fillT x).size + (printT x.p).1.size + (digS x (wideS x)).size ≤ 9223372036854775807 by omega))
   have z3 := eq_false (Nat.not_lt.2 (show (fillT x).size + (printT x.p).1.size + (digS x (wideS x)).size + (printT x.s).1.size ≤ 9223372036854775807 by omega))
   exact aP70
  case inr.inl =>
   have HT0 := aMk (HT.out.2.1 e)
   have t1 : (x.pa == 1) = true := beT e
   have z1 := eq_false (Nat.not_lt.2 (show (printT x.p).1.size + (fillT x).size ≤ 9223372036854775807 by omega))
   have z2 := eq_false (Nat.not_lt.2 (show (printT x.p).1.size + (fillT x).size + (digS x (wideS x)).size ≤ 9223372036854775807 by omega))
   have z3 := eq_false (Nat.not_lt.2 (show (printT x.p).1.size + (fillT x).size + (digS x (wideS x)).size + (printT x.s).1.size ≤ 9223372036854775807 by omega))
   exact aP70
  case inr.inr.inl =>
   have HT0 := aMk (HT.out.2.2.1 e)
   have t1 : (x.pa == 1) = false := beF (by omega)
   have t2 : (x.pa == 2) = true := beT e
   have z1 := eq_false (Nat.not_lt.2 (show (printT x.p).1.size + (digS x (wideS x)).size ≤ 9223372036854775807 by omega))
   have z2 := eq_false (Nat.not_lt.2 (show (printT x.p).1.size + (digS x (wideS x)).size + (fillT x).size ≤ 9223372036854775807 by omega))
   have z3 := eq_false (Nat.not_lt.2 (show (printT x.p).1.size + (digS x (wideS x)).size + (fillT x).size + (printT x.s).1.size ≤ 9223372036854775807 by omega))
   exact aP70
  case inr.inr.inr =>
   have HT0 := aMk (HT.out.2.2.2 e)
   have t1 : (x.pa == 1) = false := beF (by omega)
   have t2 : (x.pa == 2) = false := beF (by omega)
   have t3 : (x.pa == 3) = true := beT e
   have z1 := eq_false (Nat.not_lt.2 (show (printT x.p).1.size + (digS x (wideS x)).size ≤ 9223372036854775807 by omega))
   have z2 := eq_false (Nat.not_lt.2 (show (printT x.p).1.size + (digS x (wideS x)).size + (printT x.s).1.size ≤ 9223372036854775807 by omega))
   have z3 := eq_false (Nat.not_lt.2 (show (printT x.p).1.size + (digS x (wideS x)).size + (printT x.s).1.size + (fillT x).size ≤ 9223372036854775807 by omega))
   exact aP70
def subEq (x y : Sb) : Bool := decide (x.p = y.p) && (decide (x.s = y.s) && (x.im == y.im && (x.fn == y.fn && (x.fx == y.fx && (x.pr == y.pr && (x.se == y.se && (x.em == y.em && (x.ep == y.ep && (x.pad.toList == y.pad.toList && (x.pa == y.pa && (x.wd == y.wd)))))))))))
structure SW (w0 w : World) (L : Sl) (x : Sb) (g : Nat) (M : Sl) (y : Sb) : Prop where
 box : w.heap[w0.heap.size]? = some (.cells (subC L x) 24 (0, 0))
 box2 : w.heap[g]? = some (.cells (subC M y) 24 (0, 0))
 below : Below w0.heap.size w0 w
theorem SW.step {w0 w w1 : World} {L : Sl} {x : Sb} {g : Nat} {M : Sl} {y : Sb} (h : SW w0 w L x g M y) (hb : Below w.heap.size w w1) : SW w0 w1 L x g M y := ⟨blk_below h.box hb, blk_below h.box2 hb, below_step h.below hb⟩
set_option maxHeartbeats 16000000 in
set_option maxRecDepth 100000 in
theorem samesub_calls (L : Sl) (x : Sb) (M : Sl) (y : Sb) (w : World) (hx : SubR w L x) (hy : SubR w M y) : Calls Try.prog 18 #[subV L x, subV M y] w fun e w' => e = .returned (.bool (subEq x y)) ∧ Below w.heap.size w w' := by
 have HX := aMk hx
 have HY := aMk hy
 clear hx hy
 cases h0 : (decide (x.p = y.p))
 rotate_left
 cases h1 : (decide (x.s = y.s))
 rotate_left
 cases h2 : (x.im == y.im)
 rotate_left
 cases h3 : (x.fn == y.fn)
 rotate_left
 cases h4 : (x.fx == y.fx)
 rotate_left
 cases h5 : (x.pr == y.pr)
 rotate_left
 cases h6 : (x.se == y.se)
 rotate_left
 cases h7 : (x.em == y.em)
 rotate_left
 cases h8 : (x.ep == y.ep)
 rotate_left
 cases h9 : (x.pad.toList == y.pad.toList)
 rotate_left
 cases h10 : (x.pa == y.pa)
 rotate_left
 all_goals
  go_enter Try.func18, Try.ntmps18
  dsimp only [List.append]
  go_wp2_with (first | ((with_reducible refine gate_dst (N := 2) rfl ?_); refine box_event ?hg (N := 2) ?hd (cs := subC L x) (t := 24) ?hr ?_; (case hd => rfl); (case hg => rfl); (case hr => first | (go_simp; done) | (go_simp; rfl)); intro gb hgb w1 hbox hbb; subst hgb; have HQ0 : Aside0 (HW w w1 L x) := ⟨⟨hbox, hbb⟩⟩; clear hbox hbb) | ((with_reducible refine gate_dst (N := 3) rfl ?_); refine box_event ?hg (N := 3) ?hd (cs := subC M y) (t := 24) ?hr ?_; (case hd => rfl); (case hg => rfl); (case hr => first | (go_simp; done) | (go_simp; rfl)); intro gb hgb w1 hbox hbb; have HQ : Aside0 (SW w w1 L x gb M y) := ⟨⟨(HQ0.out.step hbb).box, hbox, (HQ0.out.step hbb).below⟩⟩; clear hbox hbb hgb HQ0; obtain ⟨c0, c1, c2, c3, c4, c5, c6, c7, c8, c9, c10, c11⟩ := sub_at HQ.out.box; obtain ⟨d0, d1, d2, d3, d4, d5, d6, d7, d8, d9, d10, d11⟩ := sub_at HQ.out.box2) | (go_at_call 29; (with_reducible refine (same_calls L.A L.c x.p M.A M.c y.p _ (Kd.C_below HX.out.p HQ.out.below) HX.out.pc (Kd.C_below HY.out.p HQ.out.below) HY.out.pc HX.out.pl).mono ?_); rintro e w1 ⟨rfl, hb⟩; have nq := aMk (HQ.out.step hb); clear HQ hb c0 c1 c2 c3 c4 c5 c6 c7 c8 c9 c10 c11 d0 d1 d2 d3 d4 d5 d6 d7 d8 d9 d10 d11; have HQ := nq; clear nq; obtain ⟨c0, c1, c2, c3, c4, c5, c6, c7, c8, c9, c10, c11⟩ := sub_at HQ.out.box; obtain ⟨d0, d1, d2, d3, d4, d5, d6, d7, d8, d9, d10, d11⟩ := sub_at HQ.out.box2) | (go_at_call 29; (with_reducible refine (same_calls L.B L.d x.s M.B M.d y.s _ (Kd.C_below HX.out.s HQ.out.below) HX.out.sc (Kd.C_below HY.out.s HQ.out.below) HY.out.sc HX.out.sl).mono ?_); rintro e w1 ⟨rfl, hb⟩; have nq := aMk (HQ.out.step hb); clear HQ hb c0 c1 c2 c3 c4 c5 c6 c7 c8 c9 c10 c11 d0 d1 d2 d3 d4 d5 d6 d7 d8 d9 d10 d11; have HQ := nq; clear nq; obtain ⟨c0, c1, c2, c3, c4, c5, c6, c7, c8, c9, c10, c11⟩ := sub_at HQ.out.box; obtain ⟨d0, d1, d2, d3, d4, d5, d6, d7, d8, d9, d10, d11⟩ := sub_at HQ.out.box2))
  go_ret
  exact ⟨ret_bool (by simp [subEq, *]), HQ.out.below⟩
theorem Sz_nil (w : World) : Kd.C k53 w none 0 [] := Kd.C_nil k53 w
def zeroSb : Sb := ⟨[], [], 0, 0, 0, 0, 0, 0, false, ⟨#[]⟩, 0, 0⟩
theorem zero_eq (x : Sb) : subEq x zeroSb = zeroB x := by
 have hp : ∀ l : List S53, decide (l = []) = (l.length == 0) := fun l => by cases l <;> rfl
 have hn : ∀ l : List UInt8, (l == ([] : List UInt8)) = l.isEmpty := fun l => by cases l <;> rfl
 unfold subEq zeroSb zeroB
 rw [hp, hp, show (⟨#[]⟩ : ByteArray).toList = [] from by decide +kernel, hn]
 cases x.ep <;> rfl
theorem samezero_calls (L : Sl) (x : Sb) (w : World) (hx : SubR w L x) : Calls Try.prog 18 #[subV L x, .agg #[.slice none 0 0, .slice none 0 0, .int .i64 0, .int .i64 0, .int .i64 0, .int .i64 0, .int .i64 0, .int .i64 0, .bool false, .string ⟨#[]⟩, .int .i64 0, .int .i64 0]] w fun e w' => e = .returned (.bool (zeroB x)) ∧ Below w.heap.size w w' := by
 have h := samesub_calls L x ⟨none, 0, none, 0⟩ zeroSb w hx ⟨Sz_nil w, Nat.le_refl _, Sz_nil w, Nat.le_refl _, Nat.le_of_ble_eq_true rfl, Nat.le_of_ble_eq_true rfl⟩
 rw [zero_eq] at h
 exact h
end Go.Proofs.Ytacnjemndfmbhaa.Q
end
