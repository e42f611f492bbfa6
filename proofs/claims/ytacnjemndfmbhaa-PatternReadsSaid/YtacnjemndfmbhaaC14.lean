import Derived.Lib.IndexAny
import Derived.Test.YtacnjemndfmbhaaC11
import Derived.Test.YtacnjemndfmbhaaC13
namespace Go.Proofs.Ytacnjemndfmbhaa
open Go.RowKit
theorem aP61 {p : Prop} (h : p := by
    rw [HE2.out]
    go_enter Try.func47, Try.ntmps47
    go_wp2_with (first | ((with_reducible refine gate_dst (N := 6) rfl ?_); refine box_event ?hg (N := 6) ?hd (cs := subC L h) (t := 24) ?hr ?_; (case hd => rfl); (case hg => rfl); (case hr => first | (go_simp; done) | (go_simp; rfl)); intro gb hgb w1 hbox hbb; subst hgb; have HQ : Aside0 (HW w w1 L h) := ⟨⟨hbox, hbb⟩⟩; clear hbox hbb) | ((with_reducible refine gate_dst (N := 8) rfl ?_); refine box_event ?hg (N := 8) ?hd (cs := subC Lz zeroSb2) (t := 24) ?hr ?_; (case hd => rfl); (case hg => rfl); (case hr => first | (go_simp; done) | (go_simp; rfl)); intro g hgb w2 hbox hbb; have HF : Aside0 (FW w w2 g L h) := ⟨⟨blk_below HQ.out.box hbb, hbox, below_step HQ.out.below hbb, by have := blk_lt HQ.out.box; omega⟩⟩; clear hbox hbb hgb HQ; have x9 : World.cell? _ ⟨w.heap.size, 9, none⟩ = some (.string h.pad) := (blk_cell HF.out.box 9).trans rfl; have z9 := blk_frozen HF.out.box 9; have z10 := blk_frozen HF.out.box 10; have x10 : World.cell? _ ⟨w.heap.size, 10, none⟩ = some (.int .i64 h.pa) := (blk_cell HF.out.box 10).trans rfl) | (go_at_call 68; (with_reducible refine (rrune_calls s (p + 1) _ hs2).mono ?_); rintro e w3 ⟨rfl, hb⟩; have nf := aMk (HF.out.step hb); clear HF hb x9 x10 z9 z10; have HF := nf; clear nf; have x9 : World.cell? _ ⟨w.heap.size, 9, none⟩ = some (.string h.pad) := (blk_cell HF.out.box 9).trans rfl; have z9 := blk_frozen HF.out.box 9; have z10 := blk_frozen HF.out.box 10; have x10 : World.cell? _ ⟨w.heap.size, 10, none⟩ = some (.int .i64 h.pa) := (blk_cell HF.out.box 10).trans rfl) | ((with_reducible refine gate_dst (N := 35) rfl ?_); refine wpList_load_row rfl 24 (.tmp 6) rfl w.heap.size rfl 24 (subC L h) (0, 0) _ HF.out.box Try.underlying24 rfl info24 ?_) | ((with_reducible refine gate_store (t := 24) (p := 8) rfl ?_); refine wpList_store_row rfl 24 (.tmp 8) (.tmp 35) rfl g (subC L h) rfl rfl 24 (subC Lz zeroSb2) HF.out.res info24 rfl (by simp [Value.oneCell']) ?_))
    exact bodyPost_ret (results_ctt results47 _ _ g 24 (subC L h) (0, 0) _ rfl (setRow_heap _ _ _ _ _ _ HF.out.res) Try.underlying24 rfl info24) rfl ⟨HF.out.fin _, rfl⟩) : p := h
theorem aP62 {p : Prop} (h : p := by
    clear c3
    rw [HE2.out]
    go_enter Try.func47, Try.ntmps47
    go_wp2_with (first | ((with_reducible refine gate_dst (N := 6) rfl ?_); refine box_event ?hg (N := 6) ?hd (cs := subC L h) (t := 24) ?hr ?_; (case hd => rfl); (case hg => rfl); (case hr => first | (go_simp; done) | (go_simp; rfl)); intro gb hgb w1 hbox hbb; subst hgb; have HQ : Aside0 (HW w w1 L h) := ⟨⟨hbox, hbb⟩⟩; clear hbox hbb) | ((with_reducible refine gate_dst (N := 8) rfl ?_); refine box_event ?hg (N := 8) ?hd (cs := subC Lz zeroSb2) (t := 24) ?hr ?_; (case hd => rfl); (case hg => rfl); (case hr => first | (go_simp; done) | (go_simp; rfl)); intro g hgb w2 hbox hbb; have HF : Aside0 (FW w w2 g L h) := ⟨⟨blk_below HQ.out.box hbb, hbox, below_step HQ.out.below hbb, by have := blk_lt HQ.out.box; omega⟩⟩; clear hbox hbb hgb HQ; have x9 : World.cell? _ ⟨w.heap.size, 9, none⟩ = some (.string h.pad) := (blk_cell HF.out.box 9).trans rfl; have z9 := blk_frozen HF.out.box 9; have z10 := blk_frozen HF.out.box 10; have x10 : World.cell? _ ⟨w.heap.size, 10, none⟩ = some (.int .i64 h.pa) := (blk_cell HF.out.box 10).trans rfl) | ((with_reducible refine gate_dst (N := 22) rfl ?_); refine wpList_load_row rfl 24 (.tmp 6) rfl w.heap.size rfl 24 (subC L h) (0, 0) _ HF.out.box Try.underlying24 rfl info24 ?_) | ((with_reducible refine gate_store (t := 24) (p := 8) rfl ?_); refine wpList_store_row rfl 24 (.tmp 8) (.tmp 22) rfl g (subC L h) rfl rfl 24 (subC Lz zeroSb2) HF.out.res info24 rfl (by simp [Value.oneCell']) ?_))
    exact bodyPost_ret (results_ctt results47 _ _ g 24 (subC L h) (0, 0) _ rfl (setRow_heap _ _ _ _ _ _ HF.out.res) Try.underlying24 rfl info24) rfl ⟨HF.out.fin _, rfl⟩) : p := h
theorem aP60 {p : Prop} (h : p := by exact ⟨⟨by have := h.p0; show 0 ≤ x.1; omega, r2, by show TokOk x.2.p; rw [r3]; exact h.tp, by show checkS x.2.p = 0; rw [r3]; exact h.cp, by show TokOk x.2.s; rw [r4]; exact h.ts, by show checkS x.2.s = 0; rw [r4]; exact h.cs, fun e => by omega, fun e => by omega, fun _ => h.n5 (by omega)⟩, fun e => by omega⟩) : p := h
theorem aP59 {p : Prop} (h : p := by
    go_wp2
    repeat (go_quiet (fail); try go_wp2_with (first | (go_at_call 65; (with_reducible refine (grouped_calls (HC.out.drewN _) (HO.out.step (pw_below_drewN (Below.refl _ _) _)) HI.out.2.2.2.2.1 ?s1 z p ?s2).mono ?_); (case s1 => have := HI.out; have := HP.out; omega); (case s2 => have := HI.out; have := HP.out; omega); intro e w1 hd; have he := doneL_ret hd; subst he; have HF := aMk hd; clear hd)))
    go_ret
    rw [HRR.out]
    have hf := HF.out
    rw [Option.isSome_map] at hf
    exact hf) : p := h
end Go.Proofs.Ytacnjemndfmbhaa
section
namespace Go.Proofs.Ytacnjemndfmbhaa.Q
open Go.RowKit Go.Proofs.Ytacnjemndfmbhaa.A Go.Proofs.YtacnjemndfmbhaaW.PrintWords Go.Proofs.YtacnjemndfmbhaaW.PrintLast Go.Proofs.YtacnjemndfmbhaaW.PrintMore
set_option linter.unusedVariables false
set_option linter.unusedSimpArgs false
def bump (G : List Int) : List Int := G.set (G.length - 1) (lastG G + 1)
def plF (s : ByteArray) : Nat → Int → List Int → Int → Option (Int × List Int × Int)
 | 0, p, G, z => some (p, G, z)
 | d + 1, p, G, z =>
  if bt s p = 35 then (if 0 < z then none else plF s d (p + 1) (bump G) z)
  else if bt s p = 48 then plF s d (p + 1) (bump G) (z + 1)
  else if bt s p = 44 then (if lastG G = 0 then none else plF s d (p + 1) (G ++ [0]) z)
  else some (p, G, z)
def placesF (s : ByteArray) (p : Int) (h : Sb) : Option (Int × Sb) :=
 (plF s ((s.size : Int) - p).toNat p [0] 0).bind fun x => (groupF x.2.1 x.2.2 h).map (fun y => (x.1, y))
theorem bump_len (G : List Int) : (bump G).length = G.length := by unfold bump; simp
theorem infoI3 : (Try.prog.info? 3).map (fun i => (i.zero, i.size, i.bytes)) = some (some (.int .i64 0), 1, 8) := by kernel_rfl
theorem last_snoc (G : List Int) : lastG (G ++ [0]) = 0 := by
 unfold lastG rd
 rw [List.length_append, show ((G.length + [(0 : Int)].length : Nat) : Int) - 1 = (G.length : Int) by simp, Int.toNat_natCast]
 simp [List.getD]
theorem row_bump {w : World} {base k c : Nat} {G : List Int} (h : RowI w base (some ⟨k, 0, none⟩) c G) {j : Nat} (hj : G.length = j + 1) (hl : lastG G = rd G j) : RowI (w.setCell ⟨k, j, none⟩ (.int .i64 (rd G j + 1))) base (some ⟨k, 0, none⟩) c (bump G) ∧ w.grownBy (w.setCell ⟨k, j, none⟩ (.int .i64 (rd G j + 1))) (some k) := by
 have hp := Kd.R_putg h (j : Int) (rd G j + 1)
 rw [Int.toNat_natCast] at hp
 refine ⟨?_, hp.2⟩
 unfold RowI bump
 rw [hl, show G.length - 1 = j by omega, List.length_set]
 exact hp.1
theorem bump_facts (G : List Int) (h : 0 < G.length) : (bump G).length = G.length ∧ lastG (bump G) = lastG G + 1 := by
 refine ⟨bump_len G, ?_⟩
 unfold lastG
 rw [bump_len]
 obtain ⟨j, hj⟩ : ∃ j : Nat, G.length = j + 1 := ⟨G.length - 1, by omega⟩
 rw [show (G.length : Int) - 1 = (j : Int) by omega]
 unfold rd bump
 rw [Int.toNat_natCast, show G.length - 1 = j by omega]
 simp [List.getD, hj]
 unfold lastG rd
 rw [show (G.length : Int) - 1 = (j : Int) by omega]
 simp [List.getD, show j < G.length by omega]
set_option maxHeartbeats 16000000 in
set_option maxRecDepth 100000 in
theorem places_calls {w0 w : World} {g : Nat} {m : Mk} {L : Sl} {s : ByteArray} {p : Int} {h : Sb} {n : Int} (hh : CW w0 w g m L s p h n) (h0 : 0 ≤ p) (hp : p ≤ s.size) (hs : s.size ≤ 128) :
  Calls Try.prog 41 #[.pointer (some ⟨g, 0, none⟩)] w (DoneL w0 g m L s (fun q => q - p) (placesF s p h)) := by
 have HC := aMk hh
 have HP := aMk (show 0 ≤ p ∧ p ≤ s.size ∧ s.size ≤ 128 from ⟨h0, hp, hs⟩)
 have HW := aMk hh.below.size
 have HRZ := aMk hh.rz
 obtain ⟨R, hR⟩ : ∃ R, plF s ((s.size : Int) - p).toNat p [0] 0 = R := ⟨_, rfl⟩
 have HT := aMk (show placesF s p h = R.bind fun x => (groupF x.2.1 x.2.2 h).map (fun y => (x.1, y)) by unfold placesF; rw [hR])
 have HR0 := aMk hR
 clear hh h0 hp hs hR
 have e1 := HC.out.c1
 go_enter Try.func41, Try.ntmps41
 go_wp2_with (first | ((with_reducible refine gate_dst (N := 11) rfl ?_); refine Kd.R_lit (Kd.int .i64) _ 3 ?hg (N := 11) ?hd (xs := ([0] : List Int)) (inner := [.int .i64 0]) (ok := fun _ => True) (okp := fun _ => True) ?hr ?hp (fun _ hk => hk) trivial (Below.refl _ _) (Nat.le_refl _) (by simp) ?_; (case hd => rfl); (case hg => rfl); (case hr => first | (go_simp; done) | (go_simp; rfl)); (case hp => exact (Reps.one (show Kd.M (Kd.int .i64) _ _ _ 0 [.int .i64 0] from rfl) (Reps.none _ _))); intro v1 w1 ho hb hg_ hnew_; clear hg_ hnew_; have nc := aMk (HC.out.step hb); have HWR := aMk hb.size; clear HC e1; have HC := nc; clear nc hb; obtain ⟨A, c, ev⟩ := Kd.R_slice ho; subst ev; have HO := aMk (show RowI w1 w.heap.size A c [0] from ho); clear ho))
 go_loopg [4, 5] ((s.size : Int) - p).toNat (fun gk v4 v5 wr => ∃ (A : Option Addr) (c : Nat) (G : List Int) (z i : Int), v4 = .slice A G.length c ∧ v5 = .int .i64 z ∧ Aside0 (p ≤ i ∧ (gk : Int) = s.size - i ∧ 0 ≤ z ∧ z ≤ i ∧ 0 < G.length ∧ (G.length : Int) ≤ 1 + i ∧ 0 ≤ lastG G ∧ lastG G ≤ i) ∧ Aside0 (plF s gk i G z = R) ∧ Aside0 (w.heap.size ≤ wr.heap.size) ∧ Aside0 (RowI wr w.heap.size A c G) ∧ Aside0 (CW w0 wr g m L s i h n))
 case atStart => exact ⟨A, c, [0], 0, p, rfl, rfl, ⟨by have := HP.out; simp [lastG, rd]; omega⟩, HR0, HWR, HO, HC⟩
 case round =>
  clear HC HR0 HO HWR
  obtain ⟨A, c, G, z, i, rfl, rfl, HI, HE, HWR, HO, HC⟩ := hrel
  have e0 := HC.out.c0
  have e1 := HC.out.c1
  have z1 := HC.out.fz 1
  obtain ⟨k, rfl, hk⟩ := HO.out.form HI.out.2.2.2.2.1
  cases gk with
  | zero =>
   have hi : R = some (i, G, z) := HE.out.symm
   have HRR := aMk (show placesF s p h = (groupF G z h).map (fun y => (i, y)) by rw [HT.out, hi]; rfl)
   have d0 : decide (i < (s.size : Int)) = false := dFa (by have := HI.out; omega)
   exact aP59
  | succ d =>
   have b0 : 0 ≤ i := aP134
   have b1 := eq_true b0
   have b2 : i < (s.size : Int) := by have := HI.out; omega
   have b3 := eq_true b2
   have d0 : decide (i < (s.size : Int)) = true := dTr b2
   have hx := bt_at s i
   have b4 : i ≤ 128 := by have := HP.out; omega
   have zz0 : 0 ≤ z := HI.out.2.2.1
   have zz1 : z ≤ 128 := by have := HI.out; omega
   have H := HE.out
   unfold plF at H
   clear HE b2
   obtain ⟨j, hj⟩ : ∃ j : Nat, G.length = j + 1 := ⟨G.length - 1, by have := HI.out; omega⟩
   have hw1 : IntKind.i64.wrap ((G.length : Int) - 1) = (j : Int) := by rw [show (G.length : Int) - 1 = (j : Int) by omega]; exact IntWalk.i64_in _ (by have := HI.out; omega)
   have j0 := eq_true (show 0 ≤ (j : Int) by omega)
   have j1 := eq_true (show (j : Int) < (G.length : Int) by omega)
   have hlast : lastG G = rd G j := by unfold lastG; rw [show (G.length : Int) - 1 = (j : Int) by omega]
   have xj := HO.out.at_ j (by omega)
   have HJ := aMk (And.intro hj hlast)
   have hw2 : IntKind.i64.wrap (rd G j + 1) = rd G j + 1 := IntWalk.i64_in _ (by have := HI.out; rw [← hlast]; omega)
   have HPUT := aMk (fun d : Nat => row_bump (HO.out.step (pw_below_drewN (Below.refl _ _) d)) hj hlast)
   have HBL := aMk (bump_facts G (by omega))
   have HCK := aMk (fun d : Nat => CW.grown (HC.out.drewN d) (HO.out.step (pw_below_drewN (Below.refl _ _) d)) HW.out HRZ.out (HPUT.out d).2)
   have y1 := fun d => (HCK.out d).c1
   have y2 := fun d => (HCK.out d).fz 1
   have yf := (Kd.R_celln 0 HO.out (j : Int) (by omega) (by omega)).2
   rw [Int.toNat_natCast] at yf
   clear hj hlast
   cases c1 : (bt s i == 35) with
   | true =>
    rw [if_pos (beq_iff_eq.mp c1)] at H
    cases c2 : decide (0 < z) with
    | true =>
     rw [if_pos (of_decide_eq_true c2)] at H
     have HRR := aMk (show placesF s p h = none by rw [HT.out, ← H]; rfl)
     clear H
     go_wp2
     repeat (go_quiet (fail); try go_wp2)
     go_ret
     rw [HRR.out]
     exact ⟨rfl, (HC.out.drewN _).fl⟩
    | false =>
     rw [if_neg (of_decide_eq_false c2)] at H
     have HE := aMk H
     clear H
     go_wp2
     repeat (go_quiet (fail); try go_wp2)
     go_roundg d
     case measure => omega
     case rel => exact ⟨some ⟨k, 0, none⟩, c, bump G, z, i + 1, by rw [HBL.out.1], aP92, ⟨by have := HI.out; have := HBL.out; omega⟩, HE, ⟨by rw [size_put, size_put]; exact HWR.out⟩, ⟨((HPUT.out _).1).set (HCK.out _).blk 1 _⟩, ⟨(HCK.out _).set_at _⟩⟩
   | false =>
    rw [if_neg (beq_eq_false_iff_ne.mp c1)] at H
    cases c2 : (bt s i == 48) with
    | true =>
     rw [if_pos (beq_iff_eq.mp c2)] at H
     have HE := aMk H
     clear H
     go_wp2
     repeat (go_quiet (fail); try go_wp2)
     go_roundg d
     case measure => omega
     case rel => exact ⟨some ⟨k, 0, none⟩, c, bump G, z + 1, i + 1, by rw [HBL.out.1], aP92, ⟨by have := HI.out; have := HBL.out; omega⟩, HE, ⟨by rw [size_put, size_put]; exact HWR.out⟩, ⟨((HPUT.out _).1).set (HCK.out _).blk 1 _⟩, ⟨(HCK.out _).set_at _⟩⟩
    | false =>
     rw [if_neg (beq_eq_false_iff_ne.mp c2)] at H
     cases c3 : (bt s i == 44) with
     | true =>
      rw [if_pos (beq_iff_eq.mp c3)] at H
      cases c4 : (rd G j == 0) with
      | true =>
       rw [if_pos (by rw [HJ.out.2]; exact beq_iff_eq.mp c4)] at H
       have HRR := aMk (show placesF s p h = none by rw [HT.out, ← H]; rfl)
       clear H
       go_wp2
       repeat (go_quiet (fail); try go_wp2)
       go_ret
       rw [HRR.out]
       exact ⟨rfl, (HC.out.drewN _).fl⟩
      | false =>
       rw [if_neg (by rw [HJ.out.2]; exact beq_eq_false_iff_ne.mp c4)] at H
       have HE := aMk H
       have HLA := aMk (last_snoc G)
       clear H y1 y2
       go_wp2
       repeat (go_quiet (fail); try go_wp2_with (first | ((with_reducible refine gate_builtin (b := .append) (xs := #[.tmp 66, .tmp 67]) rfl ?_); at_builtin; refine Kd.R_append (Kd.int .i64) w.heap.size rfl (.tmp 66) (.tmp 67) 76 3 (.int .i64 0) 8 rfl Try.underlying76 infoI3 rfl (by decide) (by omega) (.slice (some ⟨k, 0, none⟩) G.length c) G 0 [.int .i64 0] (fun _ => True) (fun _ => False) rfl rfl ?aP (fun _ hk => hk.elim) ?aF ?aO (Below.refl _ _) ?aS ?aL ?_; (case aP => exact rfl); (case aF => exact (fun _ _ => trivial)); (case aO => exact (by (with_reducible repeat (first | apply Kd.R_alloc | apply Kd.R_drewN | apply Kd.R_drew)); exact HO.out)); (case aS => exact HWR.out); (case aL => have := HI.out; have := HP.out; omega); intro v2 w2 ho hb hg hat; have HWN := aMk (Nat.le_trans HWR.out hb.size); clear HWR; have HWR := HWN; clear HWN; have nc := aMk (CW.grown (HC.out.drewN _) (HO.out.step (pw_below_drewN (Below.refl _ _) _)) HW.out HRZ.out hg); clear HC HO; have HC := nc; clear nc hb hg hat; obtain ⟨A2, c2_, ev⟩ := Kd.R_slice ho; subst ev; have HO := aMk (show RowI w2 w.heap.size A2 c2_ (G ++ [0]) from ho); clear ho; have e1 := HC.out.c1; have z1 := HC.out.fz 1)))
       go_roundg d
       case measure => omega
       case rel => exact ⟨A2, c2_, G ++ [0], z, i + 1, by simp, aP92, ⟨by have := HI.out; rw [List.length_append, HLA.out]; simp; omega⟩, HE, ⟨by rw [size_put]; exact HWR.out⟩, ⟨HO.out.set HC.out.blk 1 _⟩, ⟨HC.out.set_at _⟩⟩
     | false =>
      rw [if_neg (beq_eq_false_iff_ne.mp c3)] at H
      have HRR := aMk (show placesF s p h = (groupF G z h).map (fun y => (i, y)) by rw [HT.out, ← H]; rfl)
      clear H
      exact aP59
section
variable {w0 w : World} {g : Nat} {m : Mk} {L : Sl} {s : ByteArray} {p : Int} {h : Sb} {n : Int}
set_option maxHeartbeats 2000000 in
theorem ahead_calls (hh : CW w0 w g m L s p h n) (h0 : 0 ≤ p) (hs : s.size ≤ 128) : Calls Try.prog 38 #[.pointer (some ⟨g, 0, none⟩)] w (Done w0 g m L s n (fillF s p h 0)) := by
 have HD := aMk (fill_calls hh 0 h0 hs)
 clear hh h0 hs
 go_enter Try.func38, Try.ntmps38
 go_wp2_with (go_at_call 63; (with_reducible refine (HD.out).mono ?_); intro e w1 hd; have he := done_ret hd; subst he; have HF := aMk hd; clear hd)
 go_ret
 exact HF.out
set_option maxHeartbeats 2000000 in
theorem aheadSuffix_calls (hh : CW w0 w g m L s p h n) (h0 : 0 ≤ p) (hs : s.size ≤ 128) : Calls Try.prog 43 #[.pointer (some ⟨g, 0, none⟩)] w (Done w0 g m L s n (fillF s p h 2)) := by
 have HD := aMk (fill_calls hh 2 h0 hs)
 clear hh h0 hs
 go_enter Try.func43, Try.ntmps43
 go_wp2_with (go_at_call 63; (with_reducible refine (HD.out).mono ?_); intro e w1 hd; have he := done_ret hd; subst he; have HF := aMk hd; clear hd)
 go_ret
 exact HF.out
noncomputable def fillIf (l : List S53) (s : ByteArray) (p : Int) (h : Sb) (k : Int) : Option (Int × Sb) := if l.length = 0 then some (p, h) else fillF s p h k
set_option maxHeartbeats 2000000 in
theorem behindPrefix_calls (hh : CW w0 w g m L s p h n) (h0 : 0 ≤ p) (hs : s.size ≤ 128) : Calls Try.prog 40 #[.pointer (some ⟨g, 0, none⟩)] w (Done w0 g m L s n (fillIf h.p s p h 1)) := by
 have HC := aMk hh
 have HD := aMk (fill_calls hh 1 h0 hs)
 have e2 := hh.c2
 have e := int_len h.p.length
 clear hh h0 hs
 cases c : (h.p.length == 0) with
 | true =>
  have HE := aMk (show fillIf h.p s p h 1 = some (p, h) by unfold fillIf; rw [if_pos (beq_iff_eq.mp c)])
  go_enter Try.func40, Try.ntmps40
  go_wp2
  go_ret
  rw [HE.out]
  exact ⟨rfl, HC.out⟩
 | false =>
  have HE := aMk (show fillIf h.p s p h 1 = fillF s p h 1 by unfold fillIf; rw [if_neg (beq_eq_false_iff_ne.mp c)])
  go_enter Try.func40, Try.ntmps40
  go_wp2_with (go_at_call 63; (with_reducible refine (HD.out).mono ?_); intro e w1 hd; have he := done_ret hd; subst he; have HF := aMk hd; clear hd)
  go_ret
  rw [HE.out]
  exact HF.out
set_option maxHeartbeats 2000000 in
theorem behind_calls (hh : CW w0 w g m L s p h n) (h0 : 0 ≤ p) (hs : s.size ≤ 128) : Calls Try.prog 45 #[.pointer (some ⟨g, 0, none⟩)] w (Done w0 g m L s n (fillIf h.s s p h 3)) := by
 have HC := aMk hh
 have HD := aMk (fill_calls hh 3 h0 hs)
 have e3 := hh.c3
 have e := int_len h.s.length
 clear hh h0 hs
 cases c : (h.s.length == 0) with
 | true =>
  have HE := aMk (show fillIf h.s s p h 3 = some (p, h) by unfold fillIf; rw [if_pos (beq_iff_eq.mp c)])
  go_enter Try.func45, Try.ntmps45
  go_wp2
  go_ret
  rw [HE.out]
  exact ⟨rfl, HC.out⟩
 | false =>
  have HE := aMk (show fillIf h.s s p h 3 = fillF s p h 3 by unfold fillIf; rw [if_neg (beq_eq_false_iff_ne.mp c)])
  go_enter Try.func45, Try.ntmps45
  go_wp2_with (go_at_call 63; (with_reducible refine (HD.out).mono ?_); intro e w1 hd; have he := done_ret hd; subst he; have HF := aMk hd; clear hd)
  go_ret
  rw [HE.out]
  exact HF.out
end
def stops1 : ByteArray := ⟨#[48, 49, 50, 51, 52, 53, 54, 55, 56, 57, 35, 64, 44, 46, 59, 42]⟩
def stops2 : ByteArray := ⟨#[59, 42]⟩
noncomputable def tokT (s st : ByteArray) (p : Int) : List S53 × Int := parseT (s.extract p.toNat (stopN s st p).toNat)
def DoneP (w0 : World) (g : Nat) (s : ByteArray) (n : Int) (F : World) (q : Int) (h : Sb) (b : Bool) (e : Ending) (w' : World) : Prop :=
 e = .returned (.bool b) ∧ ∃ m L, m.R = F ∧ CW w0 w' g m L s q h n
theorem CW.set_p {w0 w : World} {g : Nat} {m : Mk} {L : Sl} {s : ByteArray} {p : Int} {h : Sb} {n : Int} (hh : CW w0 w g m L s p h n) (hs : h.s = [] ∧ L.B = none) {A : Option Addr} {l : List S53} (hr : RowIn w w0.heap.size (fun k => w0.heap.size ≤ k) A l) : ∃ m', m'.R = m.R ∧ CW w0 (w.setCell ⟨g, 2, none⟩ (.slice A l.length l.length)) g m' ⟨A, l.length, L.B, L.d⟩ s p {h with p := l} n := by
 obtain ⟨c, hr⟩ := hr
 refine ⟨⟨w.heap.size, m.R⟩, rfl, hh.ge, blk_put hh.blk 2 _ rfl, ⟨c, Kd.R_set (Kd.R_mono (Kd.R_bound hr) (fun k hk => hk.2.2.1)) hh.blk ne5348 2 _⟩, ?_, below_set hh.below hh.ge, by rw [size_put]; exact Nat.le_refl _, Nat.le_refl _, hh.sc, aP133, fun k h1 h2 => (Below.heap_setCell w _ _ k h2).trans (hh.kept k h1 h2)⟩
 show RowIn _ _ _ L.B h.s
 rw [hs.1, hs.2]
 exact RowIn.nil _ _ _
theorem CW.set_s {w0 w : World} {g : Nat} {m : Mk} {L : Sl} {s : ByteArray} {p : Int} {h : Sb} {n : Int} (hh : CW w0 w g m L s p h n) {A : Option Addr} {l : List S53} (hr : RowIn w w0.heap.size (fun k => m.m ≤ k) A l) : CW w0 (w.setCell ⟨g, 3, none⟩ (.slice A l.length l.length)) g m ⟨L.A, L.c, A, l.length⟩ s p {h with s := l} n :=
 ⟨hh.ge, blk_put hh.blk 3 _ rfl, row_set hh.rp hh.blk 3 _, row_set hr hh.blk 3 _, below_set hh.below hh.ge, aP132, hh.pc, Nat.le_refl _, aP133, fun k h1 h2 => (Below.heap_setCell w _ _ k h2).trans (hh.kept k h1 h2)⟩
set_option maxHeartbeats 4000000 in
set_option maxRecDepth 100000 in
theorem prefix_calls {w0 w : World} {g : Nat} {m : Mk} {L : Sl} {s : ByteArray} {p : Int} {h : Sb} {n : Int} (hG : Glob w0) (hh : CW w0 w g m L s p h n) (hs0 : h.s = [] ∧ L.B = none) (h0 : 0 ≤ p) (hp : p ≤ s.size) (hs : s.size ≤ 128) :
  Calls Try.prog 39 #[.pointer (some ⟨g, 0, none⟩)] w (DoneP w0 g s n m.R (stopN s stops1 p) {h with p := (tokT s stops1 p).1} ((tokT s stops1 p).2 == 0)) := by
 have HC := aMk hh
 have HB := aMk hh.below.size
 have HS0 := aMk hs0
 have HD := aMk (tokens_calls hG hh stops1 h0 hp hs)
 obtain ⟨E, hE⟩ : ∃ E, stopN s stops1 p = E := ⟨_, rfl⟩
 have HT := aMk (show tokT s stops1 p = parseT (s.extract p.toNat E.toNat) by unfold tokT; rw [hE])
 rw [hE] at HD
 rw [hE, HT.out]
 obtain ⟨T, hT⟩ : ∃ T, parseT (s.extract p.toNat E.toNat) = T := ⟨_, rfl⟩
 rw [hT] at HD ⊢
 clear hh h0 hs hE hT hG hp hs0 HT
 go_enter Try.func39, Try.ntmps39
 go_wp2_with (go_at_call 64; (refine (HD.out).mono ?_); rintro e w1 ⟨A, rfl, hr, hc⟩; have HR := aMk (show RowIn w1 w0.heap.size (fun k => w0.heap.size ≤ k) A T.1 from by obtain ⟨c, hr⟩ := hr; exact row_in HB.out hr); have z2 := hc.fz 2; have e2 := hc.c2; have HC1 := aMk hc; clear hr hc)
 go_ret
 exact ⟨rfl, by obtain ⟨m', hm', h'⟩ := HC1.out.set_p HS0.out HR.out; exact ⟨m', _, hm', h'⟩⟩
set_option maxHeartbeats 4000000 in
set_option maxRecDepth 100000 in
theorem suffix_calls {w0 w : World} {g : Nat} {m : Mk} {L : Sl} {s : ByteArray} {p : Int} {h : Sb} {n : Int} (hG : Glob w0) (hh : CW w0 w g m L s p h n) (h0 : 0 ≤ p) (hp : p ≤ s.size) (hs : s.size ≤ 128) :
  Calls Try.prog 44 #[.pointer (some ⟨g, 0, none⟩)] w (DoneP w0 g s n m.R (stopN s stops2 p) {h with s := (tokT s stops2 p).1} ((tokT s stops2 p).2 == 0)) := by
 have HC := aMk hh
 have HB := aMk hh.below.size
 have HD := aMk (tokens_calls hG hh stops2 h0 hp hs)
 obtain ⟨E, hE⟩ : ∃ E, stopN s stops2 p = E := ⟨_, rfl⟩
 have HT := aMk (show tokT s stops2 p = parseT (s.extract p.toNat E.toNat) by unfold tokT; rw [hE])
 rw [hE] at HD
 rw [hE, HT.out]
 obtain ⟨T, hT⟩ : ∃ T, parseT (s.extract p.toNat E.toNat) = T := ⟨_, rfl⟩
 rw [hT] at HD ⊢
 clear hh h0 hs hE hT hG hp HT
 go_enter Try.func44, Try.ntmps44
 go_wp2_with (go_at_call 64; (refine (HD.out).mono ?_); rintro e w1 ⟨A, rfl, hr, hc⟩; have HR := aMk (show RowIn w1 w0.heap.size (fun k => m.m ≤ k) A T.1 from by obtain ⟨c, hr⟩ := hr; exact ⟨c, Kd.R_mono (Kd.R_lower hr HB.out) (fun k hk => Nat.le_trans HC.out.mw hk)⟩); have z3 := hc.fz 3; have e3 := hc.c3; have HC1 := aMk hc; clear hr hc)
 go_ret
 exact ⟨rfl, m, _, rfl, HC1.out.set_s HR.out⟩
end Go.Proofs.Ytacnjemndfmbhaa.Q
end
section
namespace Go.Proofs.Ytacnjemndfmbhaa.Q
open Go.RowKit Go.Proofs.Ytacnjemndfmbhaa.A Go.Proofs.YtacnjemndfmbhaaW.PrintWords Go.Proofs.YtacnjemndfmbhaaW.PrintLast Go.Proofs.YtacnjemndfmbhaaW.PrintMore
set_option linter.unusedVariables false
set_option linter.unusedSimpArgs false
def zeroSb2 : Sb := ⟨[], [], 0, 0, 0, 0, 0, 0, false, ⟨#[]⟩, 0, 0⟩
structure St where
 p : Int
 h : Sb
 n : Int
noncomputable def stepS (s : ByteArray) : Nat → St → Option St
 | 0, y => (fillF s y.p y.h 0).map fun x => ⟨x.1, x.2, y.n⟩
 | 1, y => if (tokT s stops1 y.p).2 = 0 then some ⟨stopN s stops1 y.p, {y.h with p := (tokT s stops1 y.p).1}, y.n⟩ else none
 | 2, y => (fillIf y.h.p s y.p y.h 1).map fun x => ⟨x.1, x.2, y.n⟩
 | 3, y => (placesF s y.p y.h).map fun x => ⟨x.1, x.2, x.1 - y.p⟩
 | 4, y => (tailF s y.p y.h).map fun x => ⟨x.1, x.2, y.n + (x.1 - y.p)⟩
 | 5, y => (fillF s y.p y.h 2).map fun x => ⟨x.1, x.2, y.n⟩
 | 6, y => if (tokT s stops2 y.p).2 = 0 then some ⟨stopN s stops2 y.p, {y.h with s := (tokT s stops2 y.p).1}, y.n⟩ else none
 | _, y => (fillIf y.h.s s y.p y.h 3).map fun x => ⟨x.1, x.2, y.n⟩
noncomputable def runS (s : ByteArray) : List Nat → St → Option St
 | [], y => some y
 | i :: r, y => (stepS s i y).bind (runS s r)
noncomputable def widthS (y : St) : Sb := if y.h.pad.toList.isEmpty then y.h else {y.h with wd := runesT y.h.p + y.n + runesT y.h.s}
def funcs8 (g : Nat) : Array Value := #[.func (.func 38) #[.pointer (some ⟨g, 0, none⟩)] #[], .func (.func 39) #[.pointer (some ⟨g, 0, none⟩)] #[], .func (.func 40) #[.pointer (some ⟨g, 0, none⟩)] #[], .func (.func 41) #[.pointer (some ⟨g, 0, none⟩)] #[], .func (.func 42) #[.pointer (some ⟨g, 0, none⟩)] #[], .func (.func 43) #[.pointer (some ⟨g, 0, none⟩)] #[], .func (.func 44) #[.pointer (some ⟨g, 0, none⟩)] #[], .func (.func 45) #[.pointer (some ⟨g, 0, none⟩)] #[]]
theorem fillF_range {s : ByteArray} {p : Int} {h : Sb} {k : Int} {x : Int × Sb} (h0 : 0 ≤ p) (hp : p ≤ s.size) (hx : fillF s p h k = some x) : p ≤ x.1 ∧ x.1 ≤ s.size ∧ x.2.p = h.p ∧ x.2.s = h.s := by
 unfold fillF at hx
 split at hx
 ·split at hx
  ·exact absurd hx (by simp)
  ·rename_i h1 h2
   obtain rfl := Option.some.inj hx
   have hz : runeS s (p + 1) ≠ 0 := fun e => h2 (by rw [e]; rfl)
   have := runeS_in s (p + 1) hz
   exact ⟨by show p ≤ p + 1 + runeS s (p + 1); omega, by show p + 1 + runeS s (p + 1) ≤ _; omega, rfl, rfl⟩
 ·obtain rfl := Option.some.inj hx
  exact ⟨Int.le_refl _, hp, rfl, rfl⟩
theorem fillIf_range {l : List S53} {s : ByteArray} {p : Int} {h : Sb} {k : Int} {x : Int × Sb} (h0 : 0 ≤ p) (hp : p ≤ s.size) (hx : fillIf l s p h k = some x) : p ≤ x.1 ∧ x.1 ≤ s.size ∧ x.2.p = h.p ∧ x.2.s = h.s := by
 unfold fillIf at hx
 split at hx
 ·obtain rfl := Option.some.inj hx
  exact ⟨Int.le_refl _, hp, rfl, rfl⟩
 ·exact fillF_range h0 hp hx
theorem plF_range {s : ByteArray} : ∀ (d : Nat) (p : Int) (G : List Int) (z : Int) (x : Int × List Int × Int), p + d = s.size → plF s d p G z = some x → p ≤ x.1 ∧ x.1 ≤ s.size
 | 0, p, G, z, x, hp, h => by
  simp only [plF, Option.some.injEq] at h
  subst h
  exact ⟨Int.le_refl _, by show p ≤ _; omega⟩
 | d + 1, p, G, z, x, hp, h => by
  unfold plF at h
  split at h
  ·split at h
   ·exact absurd h (by simp)
   ·have := plF_range d (p + 1) _ _ x (by omega) h; omega
  ·split at h
   ·have := plF_range d (p + 1) _ _ x (by omega) h; omega
   ·split at h
    ·split at h
     ·exact absurd h (by simp)
     ·have := plF_range d (p + 1) _ _ x (by omega) h; omega
    ·obtain rfl := Option.some.inj h
     exact ⟨Int.le_refl _, by show p ≤ _; omega⟩
theorem groupF_rows {G : List Int} {z : Int} {h y : Sb} (hy : groupF G z h = some y) : y.p = h.p ∧ y.s = h.s := by
 unfold groupF at hy
 split at hy
 ·exact absurd hy (by simp)
 ·obtain rfl := Option.some.inj hy
  exact ⟨rfl, rfl⟩
theorem placesF_range {s : ByteArray} {p : Int} {h : Sb} {x : Int × Sb} (h0 : 0 ≤ p) (hp : p ≤ s.size) (hx : placesF s p h = some x) : p ≤ x.1 ∧ x.1 ≤ s.size ∧ x.2.p = h.p ∧ x.2.s = h.s := by
 unfold placesF at hx
 obtain ⟨y, hy, hx⟩ := Option.bind_eq_some_iff.mp hx
 obtain ⟨z, hz, rfl⟩ := Option.map_eq_some_iff.mp hx
 have r := plF_range _ _ _ _ _ (by omega) hy
 exact ⟨r.1, r.2, groupF_rows hz⟩
theorem tailF_range {s : ByteArray} {p : Int} {h : Sb} {x : Int × Sb} (h0 : 0 ≤ p) (hp : p ≤ s.size) (hx : tailF s p h = some x) : p ≤ x.1 ∧ x.1 ≤ s.size ∧ x.2.p = h.p ∧ x.2.s = h.s := by
 unfold tailF at hx
 obtain ⟨y, hy, rfl⟩ := Option.map_eq_some_iff.mp hx
 have hf : p ≤ y.1 ∧ y.1 ≤ s.size ∧ y.2.p = h.p ∧ y.2.s = h.s := by
  unfold fracF at hy
  split at hy
  ·split at hy
   ·exact absurd hy (by simp)
   ·rename_i h1 h2
    obtain rfl := Option.some.inj hy
    have hi := bAt_in h1
    have r1 := run_range s 48 (p + 1) hi
    have r2 := run_range s 35 _ r1.2
    exact ⟨by show p ≤ p + 1 + runN s 48 (p + 1) + runN s 35 (p + 1 + runN s 48 (p + 1)); omega, r2.2, rfl, rfl⟩
  ·obtain rfl := Option.some.inj hy
   exact ⟨Int.le_refl _, hp, rfl, rfl⟩
 have he := exp_range (s := s) (q := y.1) (by omega) hf.2.1 y.2
 refine ⟨by omega, he.2, ?_⟩
 unfold expF
 split
 ·exact hf.2.2
 ·exact hf.2.2
structure InvP (s : ByteArray) (i : Nat) (y : St) : Prop where
 p0 : 0 ≤ y.p
 p1 : y.p ≤ s.size
 tp : TokOk y.h.p
 cp : checkS y.h.p = 0
 ts : TokOk y.h.s
 cs : checkS y.h.s = 0
 s0 : i ≤ 1 → y.h.s = []
 n4 : i = 4 → 0 ≤ y.n ∧ y.n ≤ 128
 n5 : 4 < i → 0 ≤ y.n ∧ y.n ≤ 256
theorem stop_range {s st : ByteArray} {p : Int} (h0 : 0 ≤ p) (hp : p ≤ s.size) : p ≤ stopN s st p ∧ stopN s st p ≤ s.size := by
 have := stopF_range s st ((s.size : Int) - p).toNat false p
 unfold stopN
 omega
theorem tok_ok {s st : ByteArray} {p : Int} (hs : s.size ≤ 128) (h : (tokT s st p).2 = 0) : TokOk (tokT s st p).1 ∧ checkS (tokT s st p).1 = 0 :=
 ⟨parse_tok _ (aP99), parse_ok _ h⟩
theorem inv_step {s : ByteArray} (hs : s.size ≤ 128) {i : Nat} (hi : i ≤ 7) {y y' : St} (h : InvP s i y) (he : stepS s i y = some y') : InvP s (i + 1) y' ∧ (i = 0 → y'.h.s = y.h.s) := by
 have hc : i = 0 ∨ i = 1 ∨ i = 2 ∨ i = 3 ∨ i = 4 ∨ i = 5 ∨ i = 6 ∨ i = 7 := by omega
 rcases hc with rfl | rfl | rfl | rfl | rfl | rfl | rfl | rfl
 ·obtain ⟨x, hx, rfl⟩ := Option.map_eq_some_iff.mp (show (fillF s y.p y.h 0).map _ = _ from he)
  obtain ⟨r1, r2, r3, r4⟩ := fillF_range h.p0 h.p1 hx
  exact ⟨⟨by have := h.p0; show 0 ≤ x.1; omega, r2, by show TokOk x.2.p; rw [r3]; exact h.tp, by show checkS x.2.p = 0; rw [r3]; exact h.cp, by show TokOk x.2.s; rw [r4]; exact h.ts, by show checkS x.2.s = 0; rw [r4]; exact h.cs, fun _ => by show x.2.s = []; rw [r4]; exact h.s0 (by omega), fun e => by omega, fun e => by omega⟩, fun _ => r4⟩
 ·have he' : (if (tokT s stops1 y.p).2 = 0 then some (⟨stopN s stops1 y.p, {y.h with p := (tokT s stops1 y.p).1}, y.n⟩ : St) else none) = some y' := he
  split at he'
  ·obtain rfl := Option.some.inj he'
   have r := stop_range (st := stops1) h.p0 h.p1
   have t := tok_ok hs (by assumption)
   exact ⟨⟨by have := h.p0; show 0 ≤ stopN s stops1 y.p; omega, r.2, t.1, t.2, h.ts, h.cs, fun e => by omega, fun e => by omega, fun e => by omega⟩, fun e => by omega⟩
  ·exact absurd he' (by simp)
 ·obtain ⟨x, hx, rfl⟩ := Option.map_eq_some_iff.mp (show (fillIf y.h.p s y.p y.h 1).map _ = _ from he)
  obtain ⟨r1, r2, r3, r4⟩ := fillIf_range h.p0 h.p1 hx
  exact ⟨⟨by have := h.p0; show 0 ≤ x.1; omega, r2, by show TokOk x.2.p; rw [r3]; exact h.tp, by show checkS x.2.p = 0; rw [r3]; exact h.cp, by show TokOk x.2.s; rw [r4]; exact h.ts, by show checkS x.2.s = 0; rw [r4]; exact h.cs, fun e => by omega, fun e => by omega, fun e => by omega⟩, fun e => by omega⟩
 ·obtain ⟨x, hx, rfl⟩ := Option.map_eq_some_iff.mp (show (placesF s y.p y.h).map _ = _ from he)
  obtain ⟨r1, r2, r3, r4⟩ := placesF_range h.p0 h.p1 hx
  exact ⟨⟨by have := h.p0; show 0 ≤ x.1; omega, r2, by show TokOk x.2.p; rw [r3]; exact h.tp, by show checkS x.2.p = 0; rw [r3]; exact h.cp, by show TokOk x.2.s; rw [r4]; exact h.ts, by show checkS x.2.s = 0; rw [r4]; exact h.cs, fun e => by omega, fun _ => by have := h.p0; show 0 ≤ x.1 - y.p ∧ x.1 - y.p ≤ 128; omega, fun e => by omega⟩, fun e => by omega⟩
 ·obtain ⟨x, hx, rfl⟩ := Option.map_eq_some_iff.mp (show (tailF s y.p y.h).map _ = _ from he)
  obtain ⟨r1, r2, r3, r4⟩ := tailF_range h.p0 h.p1 hx
  have hn := h.n4 rfl
  exact ⟨⟨by have := h.p0; show 0 ≤ x.1; omega, r2, by show TokOk x.2.p; rw [r3]; exact h.tp, by show checkS x.2.p = 0; rw [r3]; exact h.cp, by show TokOk x.2.s; rw [r4]; exact h.ts, by show checkS x.2.s = 0; rw [r4]; exact h.cs, fun e => by omega, fun e => by omega, fun _ => by have := h.p0; show 0 ≤ y.n + (x.1 - y.p) ∧ y.n + (x.1 - y.p) ≤ 256; omega⟩, fun e => by omega⟩
 ·obtain ⟨x, hx, rfl⟩ := Option.map_eq_some_iff.mp (show (fillF s y.p y.h 2).map _ = _ from he)
  obtain ⟨r1, r2, r3, r4⟩ := fillF_range h.p0 h.p1 hx
  exact aP60
 ·have he' : (if (tokT s stops2 y.p).2 = 0 then some (⟨stopN s stops2 y.p, {y.h with s := (tokT s stops2 y.p).1}, y.n⟩ : St) else none) = some y' := he
  split at he'
  ·obtain rfl := Option.some.inj he'
   have r := stop_range (st := stops2) h.p0 h.p1
   have t := tok_ok hs (by assumption)
   exact ⟨⟨by have := h.p0; show 0 ≤ stopN s stops2 y.p; omega, r.2, h.tp, h.cp, t.1, t.2, fun e => by omega, fun e => by omega, fun _ => h.n5 (by omega)⟩, fun e => by omega⟩
  ·exact absurd he' (by simp)
 ·obtain ⟨x, hx, rfl⟩ := Option.map_eq_some_iff.mp (show (fillIf y.h.s s y.p y.h 3).map _ = _ from he)
  obtain ⟨r1, r2, r3, r4⟩ := fillIf_range h.p0 h.p1 hx
  exact aP60
def KeepG (w w' : World) (g : Nat) : Prop := w.heap.size ≤ w'.heap.size ∧ ∀ k, k < w.heap.size → k ≠ g → w'.heap[k]? = w.heap[k]?
def DoneA (w0 w : World) (g : Nat) (s : ByteArray) (R : Option St) (e : Ending) (w' : World) : Prop :=
 match R with
 | none => e = .returned (.bool false) ∧ Below w0.heap.size w0 w' ∧ KeepG w w' g
 | some y => e = .returned (.bool true) ∧ InvP s 8 y ∧ KeepG w w' g ∧ ∃ m L, CW w0 w' g m L s y.p (widthS y) y.n
def stepsFrom (i : Nat) : List Nat := List.drop i [0, 1, 2, 3, 4, 5, 6, 7]
theorem CW.keep {w0 w : World} {g : Nat} {m : Mk} {L : Sl} {s : ByteArray} {p : Int} {h : Sb} {n : Int} (hh : CW w0 w g m L s p h n) : CW w0 w g ⟨m.m, w⟩ L s p h n :=
 ⟨hh.ge, hh.blk, hh.rp, hh.rs, hh.below, hh.mw, hh.pc, hh.sc, Nat.le_refl _, fun k _ _ => rfl⟩
theorem row_kept {w0 w wr : World} {g : Nat} {m : Mk} {L : Sl} {s : ByteArray} {p : Int} {h : Sb} {n : Int} (hh : CW w0 wr g m L s p h n) (hF : m.R = w.alloc (.cells (funcs8 g) 34)) (hg : w.heap.size ≠ g) : wr.heap[w.heap.size]? = some (.cells (funcs8 g) 34 (0, 0)) := by
 have := hh.kept w.heap.size (by rw [hF]; simp) hg
 rw [this, hF]
 exact heap_alloc_new _ _
theorem keepG_alloc {w w' : World} {g : Nat} {o : Obj} (hz : (w.alloc o).heap.size ≤ w'.heap.size) (h : ∀ k, k < (w.alloc o).heap.size → k ≠ g → w'.heap[k]? = (w.alloc o).heap[k]?) : KeepG w w' g := by
 have e : (w.alloc o).heap.size = w.heap.size + 1 := by simp
 exact ⟨by omega, fun k h1 h2 => (h k (by omega) h2).trans (heap_alloc_old _ _ h1)⟩
theorem keepG_fl {w0 w w' R : World} {g : Nat} {o : Obj} (hF : R = w.alloc o) (h : Fl w0 w' g R) : KeepG w w' g := by
 subst hF
 exact keepG_alloc h.2.1 h.2.2
set_option maxHeartbeats 16000000 in
set_option maxRecDepth 100000 in
theorem all_calls {w0 w : World} {g : Nat} {m : Mk} {L : Sl} {s : ByteArray} {p : Int} {n : Int} (hG : Glob w0) (hL : L.B = none) (hh : CW w0 w g m L s p zeroSb2 n) (h0 : 0 ≤ p) (hp : p ≤ s.size) (hs : s.size ≤ 128) :
  Calls Try.prog 26 #[.pointer (some ⟨g, 0, none⟩)] w (DoneA w0 w g s (runS s (stepsFrom 0) ⟨p, zeroSb2, n⟩)) := by
 have HG := aMk hG
 have HP := aMk hs
 have HC := aMk (hh.step (below_alloc (Below.refl _ _) (.cells (funcs8 g) 34))).keep
 have HGN := aMk (show w.heap.size ≠ g by have := blk_lt hh.blk; omega)
 have HGZ := aMk (show (w.alloc (.cells (funcs8 g) 34)).heap.size = w.heap.size + 1 by simp)
 have HI := aMk (show InvP s 0 ⟨p, zeroSb2, n⟩ from ⟨h0, hp, tok_nil, check_nil, tok_nil, check_nil, fun _ => rfl, fun e => by omega, fun e => by omega⟩)
 have HB := aMk hL
 obtain ⟨R, hR⟩ : ∃ R, runS s (stepsFrom 0) ⟨p, zeroSb2, n⟩ = R := ⟨_, rfl⟩
 have HR := aMk hR
 rw [hR]
 have hmf : ∀ (fn : Fn) (first cap : Array Value) (w : World), (Instr.makeFunc fn first cap).run Try.prog w = .ok (.func fn first cap) w := fun _ _ _ _ => rfl
 clear hh h0 hp hs hG hL hR
 go_enter Try.func26, Try.ntmps26
 go_wp2
 go_loopg [4, 23] 8 (fun gk v4 v23 wr => ∃ (i : Nat) (y : St) (m : Mk) (L : Sl), v23 = .int .i64 i ∧ Aside0 (i + gk = 8) ∧ Aside0 (InvP s i y) ∧ Aside0 (m.R = w.alloc (.cells (funcs8 g) 34)) ∧ Aside0 (i ≤ 1 → y.h.s = [] ∧ L.B = none) ∧ Aside0 (runS s (stepsFrom i) y = R) ∧ Aside0 (CW w0 wr g m L s y.p y.h y.n))
 case atStart => exact ⟨0, ⟨p, zeroSb2, n⟩, _, L, rfl, ⟨rfl⟩, HI, ⟨rfl⟩, ⟨fun _ => ⟨rfl, HB.out⟩⟩, HR, HC⟩
 case round =>
  clear HC HI HR HB
  obtain ⟨i, y, m, L, rfl, HGK, HI, HF, HB, HR, HC⟩ := hrel
  have hcase : i = 0 ∨ i = 1 ∨ i = 2 ∨ i = 3 ∨ i = 4 ∨ i = 5 ∨ i = 6 ∨ i = 7 ∨ i = 8 := by have := HGK.out; omega
  rcases hcase with rfl | rfl | rfl | rfl | rfl | rfl | rfl | rfl | rfl
  ·obtain rfl : gk = 8 := by have := HGK.out; omega
   have xi : wr.cell? ⟨w.heap.size, 0, none⟩ = some (.func (.func 38) #[.pointer (some ⟨g, 0, none⟩)] #[]) := (blk_cell (row_kept HC.out HF.out HGN.out) 0).trans rfl
   have HS := aMk (show (stepS s 0 y).bind (runS s (stepsFrom 1)) = R from HR.out)
   cases hr : fillF s y.p y.h 0 with
   | none =>
    have HN := aMk (show R = none by rw [← HS.out]; show ((fillF s y.p y.h 0).map _).bind _ = none; rw [hr]; rfl)
    clear HR
    go_wp2_with (go_at_call 38; ((refine (ahead_calls HC.out HI.out.p0 HP.out).mono ?_); rw [hr]; rintro e w1 ⟨rfl, hb⟩; have HBL := aMk hb; clear hb))
    go_ret
    rw [HN.out]
    exact ⟨rfl, HBL.out.1, keepG_fl HF.out HBL.out⟩
   | some x =>
    have HN := aMk (show runS s (stepsFrom 1) ⟨x.1, x.2, y.n⟩ = R by rw [← HS.out]; show _ = ((fillF s y.p y.h 0).map _).bind _; rw [hr]; rfl)
    have HV := aMk (inv_step HP.out (i := 0) (by omega) HI.out (y' := ⟨x.1, x.2, y.n⟩) (show (fillF s y.p y.h 0).map _ = _ by rw [hr]; rfl))
    clear HR
    go_wp2_with (go_at_call 38; ((refine (ahead_calls HC.out HI.out.p0 HP.out).mono ?_); rw [hr]; rintro e w1 ⟨rfl, hc⟩; have nc := aMk hc; clear HC hc xi; have HC := nc; clear nc))
    go_roundg 7
    case measure => omega
    case rel => exact ⟨1, ⟨x.1, x.2, y.n⟩, m, L, aP92, ⟨by omega⟩, ⟨HV.out.1⟩, HF, ⟨fun _ => ⟨HV.out.1.s0 (by omega), (HB.out (by omega)).2⟩⟩, HN, HC⟩
  ·obtain rfl : gk = 7 := by have := HGK.out; omega
   have xi : wr.cell? ⟨w.heap.size, 1, none⟩ = some (.func (.func 39) #[.pointer (some ⟨g, 0, none⟩)] #[]) := (blk_cell (row_kept HC.out HF.out HGN.out) 1).trans rfl
   have HS := aMk (show (stepS s 1 y).bind (runS s (stepsFrom 2)) = R from HR.out)
   cases hr : ((tokT s stops1 y.p).2 == 0) with
   | false =>
    have HN := aMk (show R = none by rw [← HS.out]; show (if (tokT s stops1 y.p).2 = 0 then _ else none).bind _ = none; rw [if_neg (beq_eq_false_iff_ne.mp hr)]; rfl)
    clear HR
    go_wp2_with (go_at_call 39; ((refine (prefix_calls HG.out HC.out (HB.out (by omega)) HI.out.p0 HI.out.p1 HP.out).mono ?_); rw [hr]; rintro e w1 ⟨rfl, m2, L2, hF, hc⟩; have HBL := aMk (show Fl w0 w1 g m.R by rw [← hF]; exact hc.fl); clear hc hF))
    go_ret
    rw [HN.out]
    exact ⟨rfl, HBL.out.1, keepG_fl HF.out HBL.out⟩
   | true =>
    have HN := aMk (show runS s (stepsFrom 2) ⟨stopN s stops1 y.p, {y.h with p := (tokT s stops1 y.p).1}, y.n⟩ = R by rw [← HS.out]; show _ = (if (tokT s stops1 y.p).2 = 0 then _ else none).bind _; rw [if_pos (beq_iff_eq.mp hr)]; rfl)
    have HV := aMk (inv_step HP.out (i := 1) (by omega) HI.out (y' := ⟨stopN s stops1 y.p, {y.h with p := (tokT s stops1 y.p).1}, y.n⟩) (show (if (tokT s stops1 y.p).2 = 0 then _ else none) = _ by rw [if_pos (beq_iff_eq.mp hr)]))
    clear HR
    go_wp2_with (go_at_call 39; ((refine (prefix_calls HG.out HC.out (HB.out (by omega)) HI.out.p0 HI.out.p1 HP.out).mono ?_); rw [hr]; rintro e w1 ⟨rfl, m2, L2, hF, hc⟩; have nc := aMk hc; have HF2 := aMk (hF.trans HF.out); clear HC hc xi hF; have HC := nc; clear nc))
    go_roundg 6
    case measure => omega
    case rel => exact ⟨2, ⟨stopN s stops1 y.p, {y.h with p := (tokT s stops1 y.p).1}, y.n⟩, m2, L2, aP92, ⟨by omega⟩, ⟨HV.out.1⟩, HF2, ⟨fun e => by omega⟩, HN, HC⟩
  ·obtain rfl : gk = 6 := by have := HGK.out; omega
   have xi : wr.cell? ⟨w.heap.size, 2, none⟩ = some (.func (.func 40) #[.pointer (some ⟨g, 0, none⟩)] #[]) := (blk_cell (row_kept HC.out HF.out HGN.out) 2).trans rfl
   have HS := aMk (show (stepS s 2 y).bind (runS s (stepsFrom 3)) = R from HR.out)
   cases hr : fillIf y.h.p s y.p y.h 1 with
   | none =>
    have HN := aMk (show R = none by rw [← HS.out]; show ((fillIf y.h.p s y.p y.h 1).map _).bind _ = none; rw [hr]; rfl)
    clear HR
    go_wp2_with (go_at_call 40; ((refine (behindPrefix_calls HC.out HI.out.p0 HP.out).mono ?_); rw [hr]; rintro e w1 ⟨rfl, hb⟩; have HBL := aMk hb; clear hb))
    go_ret
    rw [HN.out]
    exact ⟨rfl, HBL.out.1, keepG_fl HF.out HBL.out⟩
   | some x =>
    have HN := aMk (show runS s (stepsFrom 3) ⟨x.1, x.2, y.n⟩ = R by rw [← HS.out]; show _ = ((fillIf y.h.p s y.p y.h 1).map _).bind _; rw [hr]; rfl)
    have HV := aMk (inv_step HP.out (i := 2) (by omega) HI.out (y' := ⟨x.1, x.2, y.n⟩) (show (fillIf y.h.p s y.p y.h 1).map _ = _ by rw [hr]; rfl))
    clear HR
    go_wp2_with (go_at_call 40; ((refine (behindPrefix_calls HC.out HI.out.p0 HP.out).mono ?_); rw [hr]; rintro e w1 ⟨rfl, hc⟩; have nc := aMk hc; clear HC hc xi; have HC := nc; clear nc))
    go_roundg 5
    case measure => omega
    case rel => exact ⟨3, ⟨x.1, x.2, y.n⟩, m, L, aP92, ⟨by omega⟩, ⟨HV.out.1⟩, HF, ⟨fun e => by omega⟩, HN, HC⟩
  ·obtain rfl : gk = 5 := by have := HGK.out; omega
   have xi : wr.cell? ⟨w.heap.size, 3, none⟩ = some (.func (.func 41) #[.pointer (some ⟨g, 0, none⟩)] #[]) := (blk_cell (row_kept HC.out HF.out HGN.out) 3).trans rfl
   have HS := aMk (show (stepS s 3 y).bind (runS s (stepsFrom 4)) = R from HR.out)
   cases hr : placesF s y.p y.h with
   | none =>
    have HN := aMk (show R = none by rw [← HS.out]; show ((placesF s y.p y.h).map _).bind _ = none; rw [hr]; rfl)
    clear HR
    go_wp2_with (go_at_call 41; ((refine (places_calls HC.out HI.out.p0 HI.out.p1 HP.out).mono ?_); rw [hr]; rintro e w1 ⟨rfl, hb⟩; have HBL := aMk hb; clear hb))
    go_ret
    rw [HN.out]
    exact ⟨rfl, HBL.out.1, keepG_fl HF.out HBL.out⟩
   | some x =>
    have HN := aMk (show runS s (stepsFrom 4) ⟨x.1, x.2, x.1 - y.p⟩ = R by rw [← HS.out]; show _ = ((placesF s y.p y.h).map _).bind _; rw [hr]; rfl)
    have HV := aMk (inv_step HP.out (i := 3) (by omega) HI.out (y' := ⟨x.1, x.2, x.1 - y.p⟩) (show (placesF s y.p y.h).map _ = _ by rw [hr]; rfl))
    clear HR
    go_wp2_with (go_at_call 41; ((refine (places_calls HC.out HI.out.p0 HI.out.p1 HP.out).mono ?_); rw [hr]; rintro e w1 ⟨rfl, hc⟩; have nc := aMk hc; clear HC hc xi; have HC := nc; clear nc))
    go_roundg 4
    case measure => omega
    case rel => exact ⟨4, ⟨x.1, x.2, x.1 - y.p⟩, m, L, aP92, ⟨by omega⟩, ⟨HV.out.1⟩, HF, ⟨fun e => by omega⟩, HN, HC⟩
  ·obtain rfl : gk = 4 := by have := HGK.out; omega
   have xi : wr.cell? ⟨w.heap.size, 4, none⟩ = some (.func (.func 42) #[.pointer (some ⟨g, 0, none⟩)] #[]) := (blk_cell (row_kept HC.out HF.out HGN.out) 4).trans rfl
   have HS := aMk (show (stepS s 4 y).bind (runS s (stepsFrom 5)) = R from HR.out)
   cases hr : tailF s y.p y.h with
   | none =>
    have HN := aMk (show R = none by rw [← HS.out]; show ((tailF s y.p y.h).map _).bind _ = none; rw [hr]; rfl)
    clear HR
    go_wp2_with (go_at_call 42; ((refine (fraction_calls HC.out HI.out.p0 HI.out.p1 HP.out ?sn).mono ?_); (case sn => have := HI.out.n4 rfl; omega); rw [hr]; rintro e w1 ⟨rfl, hb⟩; have HBL := aMk hb; clear hb))
    go_ret
    rw [HN.out]
    exact ⟨rfl, HBL.out.1, keepG_fl HF.out HBL.out⟩
   | some x =>
    have HN := aMk (show runS s (stepsFrom 5) ⟨x.1, x.2, y.n + (x.1 - y.p)⟩ = R by rw [← HS.out]; show _ = ((tailF s y.p y.h).map _).bind _; rw [hr]; rfl)
    have HV := aMk (inv_step HP.out (i := 4) (by omega) HI.out (y' := ⟨x.1, x.2, y.n + (x.1 - y.p)⟩) (show (tailF s y.p y.h).map _ = _ by rw [hr]; rfl))
    clear HR
    go_wp2_with (go_at_call 42; ((refine (fraction_calls HC.out HI.out.p0 HI.out.p1 HP.out ?sn).mono ?_); (case sn => have := HI.out.n4 rfl; omega); rw [hr]; rintro e w1 ⟨rfl, hc⟩; have nc := aMk hc; clear HC hc xi; have HC := nc; clear nc))
    go_roundg 3
    case measure => omega
    case rel => exact ⟨5, ⟨x.1, x.2, y.n + (x.1 - y.p)⟩, m, L, aP92, ⟨by omega⟩, ⟨HV.out.1⟩, HF, ⟨fun e => by omega⟩, HN, HC⟩
  ·obtain rfl : gk = 3 := by have := HGK.out; omega
   have xi : wr.cell? ⟨w.heap.size, 5, none⟩ = some (.func (.func 43) #[.pointer (some ⟨g, 0, none⟩)] #[]) := (blk_cell (row_kept HC.out HF.out HGN.out) 5).trans rfl
   have HS := aMk (show (stepS s 5 y).bind (runS s (stepsFrom 6)) = R from HR.out)
   cases hr : fillF s y.p y.h 2 with
   | none =>
    have HN := aMk (show R = none by rw [← HS.out]; show ((fillF s y.p y.h 2).map _).bind _ = none; rw [hr]; rfl)
    clear HR
    go_wp2_with (go_at_call 43; ((refine (aheadSuffix_calls HC.out HI.out.p0 HP.out).mono ?_); rw [hr]; rintro e w1 ⟨rfl, hb⟩; have HBL := aMk hb; clear hb))
    go_ret
    rw [HN.out]
    exact ⟨rfl, HBL.out.1, keepG_fl HF.out HBL.out⟩
   | some x =>
    have HN := aMk (show runS s (stepsFrom 6) ⟨x.1, x.2, y.n⟩ = R by rw [← HS.out]; show _ = ((fillF s y.p y.h 2).map _).bind _; rw [hr]; rfl)
    have HV := aMk (inv_step HP.out (i := 5) (by omega) HI.out (y' := ⟨x.1, x.2, y.n⟩) (show (fillF s y.p y.h 2).map _ = _ by rw [hr]; rfl))
    clear HR
    go_wp2_with (go_at_call 43; ((refine (aheadSuffix_calls HC.out HI.out.p0 HP.out).mono ?_); rw [hr]; rintro e w1 ⟨rfl, hc⟩; have nc := aMk hc; clear HC hc xi; have HC := nc; clear nc))
    go_roundg 2
    case measure => omega
    case rel => exact ⟨6, ⟨x.1, x.2, y.n⟩, m, L, aP92, ⟨by omega⟩, ⟨HV.out.1⟩, HF, ⟨fun e => by omega⟩, HN, HC⟩
  ·obtain rfl : gk = 2 := by have := HGK.out; omega
   have xi : wr.cell? ⟨w.heap.size, 6, none⟩ = some (.func (.func 44) #[.pointer (some ⟨g, 0, none⟩)] #[]) := (blk_cell (row_kept HC.out HF.out HGN.out) 6).trans rfl
   have HS := aMk (show (stepS s 6 y).bind (runS s (stepsFrom 7)) = R from HR.out)
   cases hr : ((tokT s stops2 y.p).2 == 0) with
   | false =>
    have HN := aMk (show R = none by rw [← HS.out]; show (if (tokT s stops2 y.p).2 = 0 then _ else none).bind _ = none; rw [if_neg (beq_eq_false_iff_ne.mp hr)]; rfl)
    clear HR
    go_wp2_with (go_at_call 44; ((refine (suffix_calls HG.out HC.out HI.out.p0 HI.out.p1 HP.out).mono ?_); rw [hr]; rintro e w1 ⟨rfl, m2, L2, hF, hc⟩; have HBL := aMk (show Fl w0 w1 g m.R by rw [← hF]; exact hc.fl); clear hc hF))
    go_ret
    rw [HN.out]
    exact ⟨rfl, HBL.out.1, keepG_fl HF.out HBL.out⟩
   | true =>
    have HN := aMk (show runS s (stepsFrom 7) ⟨stopN s stops2 y.p, {y.h with s := (tokT s stops2 y.p).1}, y.n⟩ = R by rw [← HS.out]; show _ = (if (tokT s stops2 y.p).2 = 0 then _ else none).bind _; rw [if_pos (beq_iff_eq.mp hr)]; rfl)
    have HV := aMk (inv_step HP.out (i := 6) (by omega) HI.out (y' := ⟨stopN s stops2 y.p, {y.h with s := (tokT s stops2 y.p).1}, y.n⟩) (show (if (tokT s stops2 y.p).2 = 0 then _ else none) = _ by rw [if_pos (beq_iff_eq.mp hr)]))
    clear HR
    go_wp2_with (go_at_call 44; ((refine (suffix_calls HG.out HC.out HI.out.p0 HI.out.p1 HP.out).mono ?_); rw [hr]; rintro e w1 ⟨rfl, m2, L2, hF, hc⟩; have nc := aMk hc; have HF2 := aMk (hF.trans HF.out); clear HC hc xi hF; have HC := nc; clear nc))
    go_roundg 1
    case measure => omega
    case rel => exact ⟨7, ⟨stopN s stops2 y.p, {y.h with s := (tokT s stops2 y.p).1}, y.n⟩, m2, L2, aP92, ⟨by omega⟩, ⟨HV.out.1⟩, HF2, ⟨fun e => by omega⟩, HN, HC⟩
  ·obtain rfl : gk = 1 := by have := HGK.out; omega
   have xi : wr.cell? ⟨w.heap.size, 7, none⟩ = some (.func (.func 45) #[.pointer (some ⟨g, 0, none⟩)] #[]) := (blk_cell (row_kept HC.out HF.out HGN.out) 7).trans rfl
   have HS := aMk (show (stepS s 7 y).bind (runS s (stepsFrom 8)) = R from HR.out)
   cases hr : fillIf y.h.s s y.p y.h 3 with
   | none =>
    have HN := aMk (show R = none by rw [← HS.out]; show ((fillIf y.h.s s y.p y.h 3).map _).bind _ = none; rw [hr]; rfl)
    clear HR
    go_wp2_with (go_at_call 45; ((refine (behind_calls HC.out HI.out.p0 HP.out).mono ?_); rw [hr]; rintro e w1 ⟨rfl, hb⟩; have HBL := aMk hb; clear hb))
    go_ret
    rw [HN.out]
    exact ⟨rfl, HBL.out.1, keepG_fl HF.out HBL.out⟩
   | some x =>
    have HN := aMk (show runS s (stepsFrom 8) ⟨x.1, x.2, y.n⟩ = R by rw [← HS.out]; show _ = ((fillIf y.h.s s y.p y.h 3).map _).bind _; rw [hr]; rfl)
    have HV := aMk (inv_step HP.out (i := 7) (by omega) HI.out (y' := ⟨x.1, x.2, y.n⟩) (show (fillIf y.h.s s y.p y.h 3).map _ = _ by rw [hr]; rfl))
    clear HR
    go_wp2_with (go_at_call 45; ((refine (behind_calls HC.out HI.out.p0 HP.out).mono ?_); rw [hr]; rintro e w1 ⟨rfl, hc⟩; have nc := aMk hc; clear HC hc xi; have HC := nc; clear nc))
    go_roundg 0
    case measure => omega
    case rel => exact ⟨8, ⟨x.1, x.2, y.n⟩, m, L, aP92, ⟨by omega⟩, ⟨HV.out.1⟩, HF, ⟨fun e => by omega⟩, HN, HC⟩
  ·obtain rfl : gk = 0 := by have := HGK.out; omega
   have HN := aMk (show R = some y from HR.out.symm)
   have e11 := HC.out.c11
   cases pe : y.h.pad.toList.isEmpty with
   | true =>
    have HE := aMk (show widthS y = y.h by unfold widthS; rw [if_pos pe])
    go_wp2
    go_ret
    rw [HN.out]
    exact ⟨rfl, HI.out, keepG_alloc (by rw [← HF.out]; exact HC.out.rz) (by rw [← HF.out]; exact HC.out.kept), m, L, by rw [HE.out]; exact HC.out⟩
   | false =>
    have HE := aMk (show widthS y = {y.h with wd := runesT y.h.p + y.n + runesT y.h.s} by unfold widthS; rw [if_neg (by rw [pe]; decide)])
    have r1 := runesT_range y.h.p HI.out.cp HI.out.tp
    have r2 := runesT_range y.h.s HI.out.cs HI.out.ts
    have nn := HI.out.n5 (by omega)
    have hw1 : IntKind.i64.wrap (runesT y.h.p + y.n) = runesT y.h.p + y.n := IntWalk.i64_in _ (by omega)
    have hw2 : IntKind.i64.wrap (runesT y.h.p + y.n + runesT y.h.s) = runesT y.h.p + y.n + runesT y.h.s := IntWalk.i64_in _ (by omega)
    clear r1 r2 nn
    go_wp2_with fail
    go_region_held3 (fun w' => w'.cell? ⟨g, 2, none⟩ = some (.slice L.A y.h.p.length L.c) ∧ w'.cell? ⟨g, 3, none⟩ = some (.slice L.B y.h.s.length L.d) ∧ w'.cell? ⟨g, 14, none⟩ = some (.int .i64 y.n))
     (first | exact ⟨HC.out.c2, HC.out.c3, HC.out.c14⟩ | exact ⟨(HC.out.set_wd _).c2, (HC.out.set_wd _).c3, (HC.out.set_wd _).c14⟩ | exact ⟨(HC.out.set_wd _).drew1.c2, (HC.out.set_wd _).drew1.c3, (HC.out.set_wd _).drew1.c14⟩)
     (first | (go_at_call 46; (with_reducible refine (truns_calls L.A L.c y.h.p _ (aP135 : CW w0 _ g m L s y.p y.h y.n).rp.C HC.out.pc HI.out.tp HI.out.cp).mono ?_); rintro e w1 ⟨rfl, hb⟩; have nc := aMk ((aP135 : CW w0 _ g m L s y.p y.h y.n).step hb); have z13 := nc.out.fz 13; have e13 := nc.out.c13; clear HC hb; have HC := nc; clear nc) | (go_at_call 46; (with_reducible refine (truns_calls L.B L.d y.h.s _ (aP135 : CW w0 _ g m L s y.p y.h y.n).rs.C HC.out.sc HI.out.ts HI.out.cs).mono ?_); rintro e w1 ⟨rfl, hb⟩; have nc := aMk ((aP135 : CW w0 _ g m L s y.p y.h y.n).step hb); have z13 := nc.out.fz 13; have e13 := nc.out.c13; clear HC hb; have HC := nc; clear nc))
    go_wp2
    go_ret
    rw [HN.out]
    have hc : CW w0 _ g m L s y.p {y.h with wd := runesT y.h.p + y.n + runesT y.h.s} y.n := (by first | exact HC.out.set_wd _ | exact (HC.out.set_wd _).drew1 | exact (HC.out.set_wd _).drewN _)
    exact ⟨rfl, HI.out, keepG_alloc (by rw [← HF.out]; exact hc.rz) (by rw [← HF.out]; exact hc.kept), m, L, by rw [HE.out]; exact hc⟩
def zeroPt : Pt := ⟨zeroSb2, false, zeroSb2⟩
def Lz : Sl := ⟨none, 0, none, 0⟩
noncomputable def scanA (s : ByteArray) (p : Int) : Option (Int × Sb) := (runS s (stepsFrom 0) ⟨p, zeroSb2, 0⟩).map (fun y => (y.p, widthS y))
noncomputable def finP (s : ByteArray) (q : Int) (x : Pt) : Pt × Int := if q < (s.size : Int) then (zeroPt, 140) else if checkP x = 0 then (x, 0) else (zeroPt, checkP x)
noncomputable def parseP (s : ByteArray) : Pt × Int :=
 if 128 < s.size then (zeroPt, 142) else
 match scanA s 0 with
 | none => (zeroPt, 140)
 | some x => if bAt s x.1 59 = true then (match scanA s (x.1 + 1) with
  | none => (zeroPt, 140)
  | some y => finP s y.1 ⟨x.2, true, y.2⟩) else finP s x.1 ⟨x.2, false, zeroSb2⟩
structure OwnP (w : World) (base : Nat) (L M : Sl) (x : Pt) : Prop where
 pp : RowIn w base (fun _ => True) L.A x.pos.p
 ps : RowIn w base (fun _ => True) L.B x.pos.s
 np : RowIn w base (fun _ => True) M.A x.neg.p
 ns : RowIn w base (fun _ => True) M.B x.neg.s
 c1 : x.pos.p.length ≤ L.c
 c2 : x.pos.s.length ≤ L.d
 c3 : x.neg.p.length ≤ M.c
 c4 : x.neg.s.length ≤ M.d
theorem OwnP.zero (w : World) (base : Nat) : OwnP w base Lz Lz zeroPt := ⟨RowIn.nil _ _ _, RowIn.nil _ _ _, RowIn.nil _ _ _, RowIn.nil _ _ _, Nat.le_refl _, Nat.le_refl _, Nat.le_refl _, Nat.le_refl _⟩
def DoneQ (w0 : World) (r : Pt × Int) (e : Ending) (w' : World) : Prop := ∃ L M, e = .returned (.tuple #[patV L M r.1, .int .i64 r.2]) ∧ OwnP w' w0.heap.size L M r.1 ∧ Below w0.heap.size w0 w'
theorem doneQ_zero {w0 w : World} {r : Pt × Int} {c : Int} (hr : r = (zeroPt, c)) (hb : Below w0.heap.size w0 w) : DoneQ w0 r (.returned (.tuple #[patV Lz Lz zeroPt, .int .i64 c])) w := by
 subst hr
 exact ⟨Lz, Lz, rfl, OwnP.zero _ _, hb⟩
theorem below_setRow {w W : World} {g : Nat} {cs : Array Value} (h : Below w.heap.size w W) (hg : w.heap.size ≤ g) : Below w.heap.size w (W.setRow g cs) :=
 h.trans ⟨rfl, rfl, rfl, by simp, fun k hk => setRow_other _ _ _ _ (by omega)⟩
theorem results15 : Try.f15.results = #[.cell 2 26, .tmp 3] := by kernel_rfl
theorem fill_pad {s : ByteArray} {p : Int} {h : Sb} {k : Int} {x : Int × Sb} (hs : s.size ≤ 128) (hp : h.pad.size ≤ 128) (hx : fillF s p h k = some x) : x.2.pad.size ≤ 128 := by
 unfold fillF at hx
 split at hx
 ·split at hx
  ·exact absurd hx (by simp)
  ·obtain rfl := Option.some.inj hx
   show (s.extract _ _).size ≤ 128
   rw [ByteArray.size_extract]
   omega
 ·obtain rfl := Option.some.inj hx
  exact hp
theorem fillIf_pad {l : List S53} {s : ByteArray} {p : Int} {h : Sb} {k : Int} {x : Int × Sb} (hs : s.size ≤ 128) (hp : h.pad.size ≤ 128) (hx : fillIf l s p h k = some x) : x.2.pad.size ≤ 128 := by
 unfold fillIf at hx
 split at hx
 ·obtain rfl := Option.some.inj hx
  exact hp
 ·exact fill_pad hs hp hx
theorem group_pad {G : List Int} {z : Int} {h y : Sb} (hy : groupF G z h = some y) : y.pad = h.pad := by
 unfold groupF at hy
 split at hy
 ·exact absurd hy (by simp)
 ·obtain rfl := Option.some.inj hy
  rfl
theorem step_pad {s : ByteArray} (hs : s.size ≤ 128) : ∀ (i : Nat) {y y' : St}, y.h.pad.size ≤ 128 → stepS s i y = some y' → y'.h.pad.size ≤ 128 := by
 intro i y y' hp he
 have hc : i = 0 ∨ i = 1 ∨ i = 2 ∨ i = 3 ∨ i = 4 ∨ i = 5 ∨ i = 6 ∨ ∃ j, i = j + 7 := by
  rcases Nat.lt_or_ge i 7 with h | h
  ·omega
  ·exact .inr (.inr (.inr (.inr (.inr (.inr (.inr ⟨i - 7, by omega⟩))))))
 rcases hc with rfl | rfl | rfl | rfl | rfl | rfl | rfl | ⟨j, rfl⟩
 ·obtain ⟨x, hx, rfl⟩ := Option.map_eq_some_iff.mp (show (fillF s y.p y.h 0).map _ = _ from he)
  exact fill_pad hs hp hx
 ·have he' : (if (tokT s stops1 y.p).2 = 0 then some (⟨stopN s stops1 y.p, {y.h with p := (tokT s stops1 y.p).1}, y.n⟩ : St) else none) = some y' := he
  split at he'
  ·obtain rfl := Option.some.inj he'
   exact hp
  ·exact absurd he' (by simp)
 ·obtain ⟨x, hx, rfl⟩ := Option.map_eq_some_iff.mp (show (fillIf y.h.p s y.p y.h 1).map _ = _ from he)
  exact fillIf_pad hs hp hx
 ·obtain ⟨x, hx, rfl⟩ := Option.map_eq_some_iff.mp (show (placesF s y.p y.h).map _ = _ from he)
  unfold placesF at hx
  obtain ⟨u, hu, hx⟩ := Option.bind_eq_some_iff.mp hx
  obtain ⟨v, hv, rfl⟩ := Option.map_eq_some_iff.mp hx
  show v.pad.size ≤ 128
  rw [group_pad hv]
  exact hp
 ·obtain ⟨x, hx, rfl⟩ := Option.map_eq_some_iff.mp (show (tailF s y.p y.h).map _ = _ from he)
  unfold tailF at hx
  obtain ⟨u, hu, rfl⟩ := Option.map_eq_some_iff.mp hx
  have h1 : u.2.pad = y.h.pad := by
   unfold fracF at hu
   split at hu
   ·split at hu
    ·exact absurd hu (by simp)
    ·obtain rfl := Option.some.inj hu; rfl
   ·obtain rfl := Option.some.inj hu; rfl
  show (expF s u.1 u.2).2.pad.size ≤ 128
  unfold expF
  split
  ·show u.2.pad.size ≤ 128; rw [h1]; exact hp
  ·show u.2.pad.size ≤ 128; rw [h1]; exact hp
 ·obtain ⟨x, hx, rfl⟩ := Option.map_eq_some_iff.mp (show (fillF s y.p y.h 2).map _ = _ from he)
  exact fill_pad hs hp hx
 ·have he' : (if (tokT s stops2 y.p).2 = 0 then some (⟨stopN s stops2 y.p, {y.h with s := (tokT s stops2 y.p).1}, y.n⟩ : St) else none) = some y' := he
  split at he'
  ·obtain rfl := Option.some.inj he'
   exact hp
  ·exact absurd he' (by simp)
 ·obtain ⟨x, hx, rfl⟩ := Option.map_eq_some_iff.mp (show (fillIf y.h.s s y.p y.h 3).map _ = _ from he)
  exact fillIf_pad hs hp hx
theorem run_pad {s : ByteArray} (hs : s.size ≤ 128) : ∀ (l : List Nat) (y y' : St), y.h.pad.size ≤ 128 → runS s l y = some y' → y'.h.pad.size ≤ 128
 | [], y, y', hp, h => by obtain rfl := Option.some.inj h; exact hp
 | i :: r, y, y', hp, h => by
  obtain ⟨u, hu, h⟩ := Option.bind_eq_some_iff.mp (show (stepS s i y).bind (runS s r) = some y' from h)
  exact run_pad hs r u y' (step_pad hs i hp hu) h
theorem width_same (y : St) : (widthS y).p = y.h.p ∧ (widthS y).s = y.h.s ∧ (widthS y).pad = y.h.pad := by
 unfold widthS
 split <;> exact ⟨rfl, rfl, rfl⟩
theorem run_n (s : ByteArray) (p : Int) (h : Sb) (n : Int) : runS s (stepsFrom 0) ⟨p, h, n⟩ = runS s (stepsFrom 0) ⟨p, h, 0⟩ := by
 show (stepS s 0 ⟨p, h, n⟩).bind (runS s [1, 2, 3, 4, 5, 6, 7]) = (stepS s 0 ⟨p, h, 0⟩).bind (runS s [1, 2, 3, 4, 5, 6, 7])
 show ((fillF s p h 0).map fun x => (⟨x.1, x.2, n⟩ : St)).bind _ = ((fillF s p h 0).map fun x => (⟨x.1, x.2, 0⟩ : St)).bind _
 cases fillF s p h 0 with
 | none => rfl
 | some x =>
  show (if (tokT s stops1 x.1).2 = 0 then some (⟨stopN s stops1 x.1, {x.2 with p := (tokT s stops1 x.1).1}, n⟩ : St) else none).bind (runS s [2, 3, 4, 5, 6, 7]) = (if (tokT s stops1 x.1).2 = 0 then some (⟨stopN s stops1 x.1, {x.2 with p := (tokT s stops1 x.1).1}, 0⟩ : St) else none).bind (runS s [2, 3, 4, 5, 6, 7])
  split
  ·generalize stopN s stops1 x.1 = q
   generalize ({x.2 with p := (tokT s stops1 x.1).1} : Sb) = g
   show ((fillIf g.p s q g 1).map fun x => (⟨x.1, x.2, n⟩ : St)).bind (runS s [3, 4, 5, 6, 7]) = ((fillIf g.p s q g 1).map fun x => (⟨x.1, x.2, 0⟩ : St)).bind (runS s [3, 4, 5, 6, 7])
   cases fillIf g.p s q g 1 with
   | none => rfl
   | some z => rfl
  ·rfl
theorem CW.start {w1 w2 : World} {s : ByteArray} (hb : Below w1.heap.size w1 w2) (hk : w2.heap[w1.heap.size]? = some (.cells (scC Lz s 0 zeroSb2 0) 48 (0, 0))) : CW w1 w2 w1.heap.size ⟨0, w1⟩ Lz s 0 zeroSb2 0 :=
 ⟨Nat.le_refl _, hk, RowIn.nil _ _ _, RowIn.nil _ _ _, hb, Nat.zero_le _, Nat.le_refl _, Nat.le_refl _, hb.size, fun k h1 h2 => hb.block k h1⟩
theorem row_moved {w w1 : World} {base : Nat} {ok : Nat → Prop} {A : Option Addr} {xs : List S53} (h : RowIn w base ok A xs) (hm : ∀ (k : Nat) (cs : Array Value), w.heap[k]? = some (.cells cs 53 (0, 0)) → w1.heap[k]? = w.heap[k]?) : RowIn w1 base ok A xs := by
 obtain ⟨c, h⟩ := h
 refine ⟨c, Kd.R_mono (Kd.R_move (Kd.R_bound h) (fun k hk => ?_)) (fun k hk => hk.1)⟩
 obtain ⟨_, _, _, q, hq, cells, hc⟩ := hk
 have : q = 53 := aP94
 subst this
 exact hm k cells hc
theorem CW.other {w0 w : World} {g : Nat} {m : Mk} {L : Sl} {s : ByteArray} {p : Int} {h : Sb} {n : Int} (hh : CW w0 w g m L s p h n) {k : Nat} {cur cs : Array Value} (hk : w.heap[k]? = some (.cells cur 26 (0, 0))) (h1 : w0.heap.size ≤ k) (h2 : m.R.heap.size ≤ k) : CW w0 (w.setRow k cs) g m L s p h n := by
 have hne : g ≠ k := blk_ne hh.blk hk (by decide)
 refine ⟨hh.ge, (setRow_other _ _ _ _ hne).trans hh.blk, row_moved hh.rp (fun j cj hj => setRow_other _ _ _ _ (blk_ne hj hk (by decide))), row_moved hh.rs (fun j cj hj => setRow_other _ _ _ _ (blk_ne hj hk (by decide))), below_setRow hh.below h1, by simpa using hh.mw, hh.pc, hh.sc, by simpa using hh.rz, fun j hj1 hj2 => (setRow_other _ _ _ _ (by omega)).trans (hh.kept j hj1 hj2)⟩
theorem CW.reset {w0 w : World} {g : Nat} {m : Mk} {L : Sl} {s : ByteArray} {p : Int} {h : Sb} {n : Int} (hh : CW w0 w g m L s p h n) {cs : Array Value} (hcs : cs = scC Lz s p zeroSb2 n) : CW w0 (w.setRow g cs) g m Lz s p zeroSb2 n := by
 subst hcs
 exact ⟨hh.ge, setRow_heap _ _ _ _ _ _ hh.blk, RowIn.nil _ _ _, RowIn.nil _ _ _, below_setRow hh.below hh.ge, by simpa using hh.mw, Nat.le_refl _, Nat.le_refl _, by simpa using hh.rz, fun j hj1 hj2 => (setRow_other _ _ _ _ hj2).trans (hh.kept j hj1 hj2)⟩
theorem wpList_store_mid {P : Program} {ops : Array Oper} {rest : List Oper} {o : Oper} {a : Act} {w : World} {Q : Exit → Act → World → Prop} (hgd : o.guard = none) (ty : TypeId) (x y : Operand) (ho : o.op = .store ty x y)
  (g off : Nat) (cells : Array Value) (hx : a.eval x = .pointer (some ⟨g, off, none⟩)) (hy : a.eval y = .agg cells)
  (t : TypeId) (cur : Array Value) (hg : w.heap[g]? = some (.cells cur t (0, 0))) (hi : (P.info? ty).map (·.size) = some cells.size)
  (hold : off + cells.size ≤ cur.size) (h1 : cells.all (·.oneCell') = true)
  (h : wpList P ops Q rest (a.put o.dst undef) (w.setRow g (cur.toList.take off ++ cells.toList ++ cur.toList.drop (off + cells.size)).toArray)) : wpList P ops Q (o :: rest) a w := by
 have hs := run_storeCells_at (P := P) g off t cells.toList 0 cur w hg (by simp; omega) (fun v hv => (Array.all_eq_true_iff_forall_mem.1 h1) v (by simpa using hv))
 have hst : (storeVar ty ⟨g, off, none⟩ (.agg cells)).run P w = .ok () (w.setRow g (cur.toList.take off ++ cells.toList ++ cur.toList.drop (off + cells.size)).toArray) := by
  cases hq : P.info? ty with
  | none => simp [hq] at hi
  | some i =>
   have hz : cells.size = i.size := by simp [hq] at hi; omega
   simp only [Nat.add_zero, Array.length_toList] at hs
   simp [storeVar, sizeOf, typeInfo, hq, Value.cells, hz.symm, hs]
 refine wpList_plain hgd fun K hK => ?_
 unfold Oper.wp execOp
 simp only [ho, hx, hy, Instr.storeAt, Instr.sureAddr, Sem.run_bind, Sem.run_pure, Result.andThen_ok, hst]
 exact hK _ _ h
theorem RowIn.free {w : World} {base : Nat} {ok : Nat → Prop} {A : Option Addr} {xs : List S53} (h : RowIn w base ok A xs) : RowIn w base (fun _ => True) A xs := by
 obtain ⟨c, h⟩ := h
 exact ⟨c, Kd.R_mono h (fun k hk => trivial)⟩
theorem subOk_of {w : World} {base : Nat} {o1 o2 : Nat → Prop} {L : Sl} {x : Sb} (h1 : RowIn w base o1 L.A x.p) (h2 : RowIn w base o2 L.B x.s) (c1 : x.p.length ≤ L.c) (c2 : x.s.length ≤ L.d) (tp : TokOk x.p) (ts : TokOk x.s) (hp : x.pad.size ≤ 128) : SubOk w L x :=
 ⟨⟨h1.C, c1, h2.C, c2, tp.2, ts.2⟩, tp, ts, by omega⟩
theorem subOk_zero (w : World) : SubOk w Lz zeroSb2 := subOk_of (base := 0) (o1 := fun _ => True) (o2 := fun _ => True) (RowIn.nil _ _ _) (RowIn.nil _ _ _) (Nat.le_refl _) (Nat.le_refl _) tok_nil tok_nil (by decide)
theorem info24 : (Try.prog.info? 24).map (·.size) = some 12 := by kernel_rfl
def MidP (w w1 : World) (k5 : Nat) (s : ByteArray) (wc : World) : Prop := ∃ (q : Int) (x : Pt) (L M : Sl), parseP s = finP s q x ∧ wc.heap[k5]? = some (.cells (patC L M x) 26 (0, 0)) ∧ wc.heap[w.heap.size]? = some (.cells (patC Lz Lz zeroPt) 26 (0, 0)) ∧ wc.cell? ⟨w1.heap.size, 1, none⟩ = some (.int .i64 q) ∧ OwnP wc w1.heap.size L M x ∧ SubOk wc L x.pos ∧ SubOk wc M x.neg ∧ Below w1.heap.size w1 wc
theorem sub_width {w : World} {base : Nat} {o1 o2 : Nat → Prop} {L : Sl} {s : ByteArray} {p n : Int} {y : St} (hs : s.size ≤ 128) (hr : runS s (stepsFrom 0) ⟨p, zeroSb2, n⟩ = some y) (hv : InvP s 8 y) (h1 : RowIn w base o1 L.A (widthS y).p) (h2 : RowIn w base o2 L.B (widthS y).s) (c1 : (widthS y).p.length ≤ L.c) (c2 : (widthS y).s.length ≤ L.d) : SubOk w L (widthS y) := by
 have hw := width_same y
 exact subOk_of h1 h2 c1 c2 (by rw [hw.1]; exact hv.tp) (by rw [hw.2.1]; exact hv.ts) (by rw [hw.2.2]; exact run_pad hs _ _ _ (by show (0 : Nat) ≤ 128; omega) hr)
theorem mid_one {w w1 w5 w6 : World} {k5 : Nat} {s : ByteArray} {m : Mk} {L : Sl} {y : St} {g : Nat} (hs : s.size ≤ 128) (hr : runS s (stepsFrom 0) ⟨0, zeroSb2, 0⟩ = some y) (hv : InvP s 8 y) (hg : g = w1.heap.size)
  (hE : parseP s = finP s y.p ⟨widthS y, false, zeroSb2⟩) (hC : CW w1 w6 g ⟨m.m, w5⟩ L s y.p (widthS y) y.n) (hk : w5.heap[k5]? = some (.cells (patC L Lz ⟨widthS y, false, zeroSb2⟩) 26 (0, 0))) (hkg : k5 ≠ g) (hlt : w.heap.size < g)
  (ha : w5.heap[w.heap.size]? = some (.cells (patC Lz Lz zeroPt) 26 (0, 0))) : MidP w w1 k5 s w6 := by
 subst hg
 exact ⟨y.p, ⟨widthS y, false, zeroSb2⟩, L, Lz, hE, (hC.kept k5 (blk_lt hk) hkg).trans hk, (hC.kept _ (blk_lt ha) (by omega)).trans ha, hC.c1, ⟨hC.rp.free, hC.rs.free, RowIn.nil _ _ _, RowIn.nil _ _ _, hC.pc, hC.sc, Nat.le_refl _, Nat.le_refl _⟩, sub_width hs hr hv hC.rp hC.rs hC.pc hC.sc, subOk_zero _, hC.below⟩
theorem mid_two {w w1 w5 w6 w7 w8 w9 w10 : World} {k5 : Nat} {s : ByteArray} {m m2 : Mk} {L L2 : Sl} {y y2 : St} {g : Nat} {p' n' : Int} {c7 c10 : Array Value} (hs : s.size ≤ 128) (hr : runS s (stepsFrom 0) ⟨0, zeroSb2, 0⟩ = some y) (hv : InvP s 8 y) (hr2 : runS s (stepsFrom 0) ⟨p', zeroSb2, n'⟩ = some y2) (hv2 : InvP s 8 y2) (hg : g = w1.heap.size)
  (hE : parseP s = finP s y2.p ⟨widthS y, true, widthS y2⟩) (hC : CW w1 w6 g ⟨m.m, w5⟩ L s p' (widthS y) y.n) (h7 : w7 = w6.setRow g c7) (hkeep : KeepG w7 w8 g) (hC8 : CW w1 w8 g m2 L2 s y2.p (widthS y2) y2.n) (h9 : w9 = w8.setCell ⟨k5, 12, none⟩ (.bool true)) (h10 : w10 = w9.setRow k5 c10) (hc10 : c10 = patC L L2 ⟨widthS y, true, widthS y2⟩)
  (hk : w5.heap[k5]? = some (.cells (patC L Lz ⟨widthS y, false, zeroSb2⟩) 26 (0, 0))) (hkg : k5 ≠ g) (hk1 : w1.heap.size ≤ k5) (hlt : w.heap.size < g)
  (ha : w5.heap[w.heap.size]? = some (.cells (patC Lz Lz zeroPt) 26 (0, 0))) : MidP w w1 k5 s w10 := by
 have z6 := hC.rz
 have z7 : w7.heap.size = w6.heap.size := by rw [h7]; simp
 have f8 : ∀ k, k < w5.heap.size → k ≠ g → w8.heap[k]? = w5.heap[k]? := fun k h1 h2 => by
  rw [hkeep.2 k (by show k < w7.heap.size; have : w5.heap.size ≤ w6.heap.size := z6; omega) h2, h7, setRow_other _ _ _ _ h2]
  exact hC.kept k h1 h2
 have k8 := (f8 k5 (blk_lt hk) hkg).trans hk
 have f10 : ∀ k, k ≠ k5 → w10.heap[k]? = w8.heap[k]? := fun k h => by
  rw [h10, setRow_other _ _ _ _ h, h9]
  exact Below.heap_setCell w8 _ _ k h
 have k9 : w9.heap[k5]? = some (.cells (patC L Lz ⟨widthS y, true, zeroSb2⟩) 26 (0, 0)) := by rw [h9]; exact blk_put k8 12 _ rfl
 have k10 : w10.heap[k5]? = some (.cells (patC L L2 ⟨widthS y, true, widthS y2⟩) 26 (0, 0)) := by rw [h10, hc10]; exact setRow_heap _ _ _ _ _ _ k9
 have a10 := (f10 _ (show w.heap.size ≠ k5 by omega)).trans ((f8 _ (blk_lt ha) (by omega)).trans ha)
 have g10 := (f10 g (fun h => hkg h.symm)).trans hC8.blk
 have m6 : ∀ (k : Nat) (cs : Array Value), w6.heap[k]? = some (.cells cs 53 (0, 0)) → w10.heap[k]? = w6.heap[k]? := fun k cs h => by
  have n1 : k ≠ g := fun e => by subst e; rw [hC.blk] at h; simp at h
  have e8 : w8.heap[k]? = w6.heap[k]? := by rw [hkeep.2 k (by have := blk_lt h; omega) n1, h7, setRow_other _ _ _ _ n1]
  have n2 : k ≠ k5 := fun e => by subst e; rw [← e8, k8] at h; simp at h
  rw [f10 k n2, e8]
 have m8 : ∀ (k : Nat) (cs : Array Value), w8.heap[k]? = some (.cells cs 53 (0, 0)) → w10.heap[k]? = w8.heap[k]? := fun k cs h =>
  f10 k (fun e => by subst e; rw [k8] at h; simp at h)
 have r1 := row_moved hC.rp.free m6
 have r2 := row_moved hC.rs.free m6
 have r3 := row_moved hC8.rp.free m8
 have r4 := row_moved hC8.rs.free m8
 have hb : Below w1.heap.size w1 w10 := by
  rw [h10, h9]
  exact below_setRow (below_set hC8.below hk1) hk1
 subst hg
 exact ⟨y2.p, ⟨widthS y, true, widthS y2⟩, L, L2, hE, k10, a10, (blk_cell g10 1).trans rfl, ⟨r1, r2, r3, r4, hC.pc, hC.sc, hC8.pc, hC8.sc⟩, sub_width hs hr hv r1 r2 hC.pc hC.sc, sub_width hs hr2 hv2 r3 r4 hC8.pc hC8.sc, hb⟩
theorem RowIn.lower {w : World} {base b2 : Nat} {ok : Nat → Prop} {A : Option Addr} {xs : List S53} (h : RowIn w base ok A xs) (hb : b2 ≤ base) : RowIn w b2 ok A xs := by
 obtain ⟨c, h⟩ := h
 exact ⟨c, Kd.R_lower h hb⟩
theorem OwnP.put {w7 w8 : World} {base b2 : Nat} {L M : Sl} {x : Pt} {g : Nat} {cur cs : Array Value} (h : OwnP w7 base L M x) (hb : Below w7.heap.size w7 w8) (hg : w8.heap[g]? = some (.cells cur 26 (0, 0))) (hl : b2 ≤ base) : OwnP (w8.setRow g cs) b2 L M x := by
 have hm : ∀ (k : Nat) (cj : Array Value), w8.heap[k]? = some (.cells cj 53 (0, 0)) → (w8.setRow g cs).heap[k]? = w8.heap[k]? := fun k cj hk => setRow_other _ _ _ _ (blk_ne hk hg (by decide))
 exact ⟨row_moved ((h.pp.below hb).lower hl) hm, row_moved ((h.ps.below hb).lower hl) hm, row_moved ((h.np.below hb).lower hl) hm, row_moved ((h.ns.below hb).lower hl) hm, h.c1, h.c2, h.c3, h.c4⟩
theorem doneQ_some {w w7 w8 : World} {base : Nat} {L M : Sl} {x : Pt} {r : Pt × Int} {g : Nat} {cur cs : Array Value} (hr : r = (x, 0)) (h : OwnP w7 base L M x) (hb : Below w7.heap.size w7 w8) (hg : w8.heap[g]? = some (.cells cur 26 (0, 0))) (hl : w.heap.size ≤ base) (h7 : Below w.heap.size w w8) (hgg : w.heap.size ≤ g) : DoneQ w r (.returned (.tuple #[patV L M x, .int .i64 0])) (w8.setRow g cs) := by
 subst hr
 exact ⟨L, M, rfl, h.put hb hg hl, below_setRow h7 hgg⟩
set_option maxHeartbeats 16000000 in
set_option maxRecDepth 100000 in
theorem parse_walk (s : ByteArray) (w : World) (hG : Glob w) : Calls Try.prog 15 #[.string s] w (DoneQ w (parseP s)) := by
 have HG := aMk hG
 have hu26 := Try.underlying26
 clear hG
 go_enter Try.func15, Try.ntmps15
 go_upto_region 1 with (fail)
 go_cut [9] (fun v wc => v = .bool (decide (128 < (s.size : Int))) ∧ Aside0 (wc.heap[w.heap.size]? = some (.cells (patC Lz Lz zeroPt) 26 (0, 0))) ∧ Aside0 (Below w.heap.size w wc))
 case first =>
  have h1 := heap_alloc_new w (.cells (patC Lz Lz zeroPt) 26)
  have HA := aMk h1
  clear h1
  go_wp2
  go_meet
  case rel => exact ⟨rfl, HA, ⟨below_alloc (Below.refl _ _) _⟩⟩
 case rest =>
  obtain ⟨w1, rfl⟩ : ∃ w1 : World, w1 = wc := ⟨_, rfl⟩
  obtain ⟨rfl, HA, HB⟩ := hcut
  cases d : decide (128 < (s.size : Int)) with
  | true =>
   have HE := aMk (show parseP s = (zeroPt, 142) by unfold parseP; rw [if_pos (by have := of_decide_eq_true d; omega)])
   go_wp2_with (first | ((with_reducible refine gate_store (t := 26) (p := 2) rfl ?_); refine wpList_store_row rfl 26 (.tmp 2) (.tmp 10) rfl w.heap.size (patC Lz Lz zeroPt) rfl rfl 26 (patC Lz Lz zeroPt) HA.out info26 rfl (by simp [Value.oneCell']) ?_))
   exact bodyPost_ret (results_ct results15 _ _ w.heap.size 26 (patC Lz Lz zeroPt) (0, 0) _ rfl (setRow_heap _ _ _ _ _ _ HA.out) Try.underlying26 rfl info26) rfl (doneQ_zero HE.out (below_setRow HB.out (Nat.le_refl _)))
  | false =>
   have hs : s.size ≤ 128 := by have := of_decide_eq_false d; omega
   have HP := aMk hs
   have HE := aMk (show parseP s = (match scanA s 0 with
    | none => (zeroPt, 140)
    | some x => if bAt s x.1 59 = true then (match scanA s (x.1 + 1) with
     | none => (zeroPt, 140)
     | some y => finP s y.1 ⟨x.2, true, y.2⟩) else finP s x.1 ⟨x.2, false, zeroSb2⟩) by unfold parseP; rw [if_neg (by omega)])
   have HG1 := aMk (Glob_below HG.out HB.out)
   have HLT := aMk (show w.heap.size < w1.heap.size from blk_lt HA.out)
   clear hs
   cases hS : runS s (stepsFrom 0) ⟨0, zeroSb2, 0⟩ with
   | none =>
    have HE2 := aMk (show parseP s = (zeroPt, 140) by rw [HE.out]; unfold scanA; rw [hS]; rfl)
    go_wp2_with (first | ((with_reducible refine gate_dst (N := 13) rfl ?_); refine box_event ?hg (N := 13) ?hd (cs := scC Lz s 0 zeroSb2 0) (t := 48) ?hr ?_; (case hd => rfl); (case hg => rfl); (case hr => first | (go_simp; done) | (go_simp; rfl)); intro gb hgb w2 hbox hbb; subst hgb; have HC := aMk (CW.start hbb hbox); clear hbox hbb) | (go_at_call 26; ((refine (all_calls HG1.out rfl HC.out (Int.le_refl _) (by omega) HP.out).mono ?_); rw [hS]; rintro e w3 ⟨rfl, hb, _⟩; have HBL := aMk hb; have HA3 := aMk ((hb.block _ HLT.out).trans HA.out); clear hb)) | ((with_reducible refine gate_store (t := 26) (p := 2) rfl ?_); refine wpList_store_row rfl 26 (.tmp 2) (.tmp 17) rfl w.heap.size (patC Lz Lz zeroPt) rfl rfl 26 (patC Lz Lz zeroPt) HA3.out info26 rfl (by simp [Value.oneCell']) ?_))
    exact bodyPost_ret (results_ct results15 _ _ w.heap.size 26 (patC Lz Lz zeroPt) (0, 0) _ rfl (setRow_heap _ _ _ _ _ _ HA3.out) Try.underlying26 rfl info26) rfl (doneQ_zero HE2.out (below_setRow (below_then HB.out (Nat.le_of_lt HLT.out) HBL.out) (Nat.le_refl _)))
   | some y =>
    have HX := aMk (show scanA s 0 = some (y.p, widthS y) by unfold scanA; rw [hS]; rfl)
    go_upto_region 7 with (first | ((with_reducible refine gate_dst (N := 13) rfl ?_); refine box_event ?hg (N := 13) ?hd (cs := scC Lz s 0 zeroSb2 0) (t := 48) ?hr ?_; (case hd => rfl); (case hg => rfl); (case hr => first | (go_simp; done) | (go_simp; rfl)); intro gb hgb w2 hbox hbb; subst hgb; have HC := aMk (CW.start hbb hbox); clear hbox hbb) | (go_at_call 26; ((refine (all_calls HG1.out rfl HC.out (Int.le_refl _) (by omega) HP.out).mono ?_); rw [hS]; rintro e w3 ⟨rfl, hinv, hkeep, m, L, hc⟩; have HV := aMk hinv; have HC1 := aMk hc; clear HC hinv hkeep hc; have HC := HC1; clear HC1; have e1 := HC.out.c1; have e2 := HC.out.c2; have e3 := HC.out.c3; have e4 := HC.out.c4; have e5 := HC.out.c5; have e6 := HC.out.c6; have e7 := HC.out.c7; have e8 := HC.out.c8; have e9 := HC.out.c9; have e10 := HC.out.c10; have e11 := HC.out.c11; have e12 := HC.out.c12; have e13 := HC.out.c13)) | ((with_reducible refine gate_dst (N := 5) rfl ?_); refine box_event ?hg (N := 5) ?hd (cs := patC Lz Lz zeroPt) (t := 26) ?hr ?_; (case hd => rfl); (case hg => rfl); (case hr => first | (go_simp; done) | (go_simp; rfl)); intro k5 hk5 w4 hbox hbb; have HK := aMk hbox; have HKG := aMk (show m.R.heap.size ≤ k5 ∧ w1.heap.size ≤ k5 by have z1 := HC.out.rz; have z2 := HC.out.below.size; omega); have nc := aMk (HC.out.step hbb); clear HC hbox hbb hk5 e1 e2 e3 e4 e5 e6 e7 e8 e9 e10 e11 e12 e13; have HC := nc; clear nc) | ((with_reducible refine gate_store (t := 26) (p := 5) rfl ?_); refine wpList_store_row rfl 26 (.tmp 5) (.tmp 22) rfl k5 (patC L Lz ⟨widthS y, false, zeroSb2⟩) rfl rfl 26 (patC Lz Lz zeroPt) HK.out info26 rfl (by simp [Value.oneCell']) ?_; generalize hW5 : World.setRow w4 k5 (patC L Lz ⟨widthS y, false, zeroSb2⟩) = w5; have H5 : Aside0 (CW w1 w5 w1.heap.size m L s y.p (widthS y) y.n) := ⟨by rw [← hW5]; exact HC.out.other HK.out HKG.out.2 HKG.out.1⟩; have KNE := aMk (fun e : k5 = w1.heap.size => blk_ne HC.out.blk HK.out (by decide) e.symm); have K5 : Aside0 (w5.heap[k5]? = some (.cells (patC L Lz ⟨widthS y, false, zeroSb2⟩) 26 (0, 0))) := ⟨by rw [← hW5]; exact setRow_heap _ _ _ _ _ _ HK.out⟩; have A5 : Aside0 (w5.heap[w.heap.size]? = some (.cells (patC Lz Lz zeroPt) 26 (0, 0))) := ⟨by have q1 := HLT.out; have q2 := HKG.out.2; rw [← hW5, setRow_other _ _ _ _ (by omega)]; exact (HC.out.below.block _ HLT.out).trans HA.out⟩; clear HC HK hW5))
    go_upto_if 24 with (go_at_call 27; ((refine (next_calls H5.out.keep 59 HV.out.p0 HP.out).mono ?_); rintro e w6 ⟨rfl, hc⟩; have H6 := aMk hc; clear H5 hc))
    rename_i K hK
    go_cut [] (fun wc => Aside0 (MidP w w1 k5 s wc))
    case first =>
     cases hb : bAt s y.p 59 with
     | false =>
      have HM := aMk (mid_one HP.out hS HV.out rfl (show parseP s = finP s y.p ⟨widthS y, false, zeroSb2⟩ by rw [HE.out, HX.out]; show (if bAt s y.p 59 = true then _ else _) = _; rw [if_neg (by rw [hb]; decide)]) (by have := H6.out; rw [nextP_no hb] at this; exact this) K5.out KNE.out HLT.out A5.out)
      go_wp2
      go_meet
      case rel => exact HM
     | true =>
      have H7 : Aside0 (CW w1 w6 w1.heap.size ⟨m.m, w5⟩ L s (y.p + 1) (widthS y) y.n) := ⟨by have := H6.out; rw [nextP_yes hb] at this; exact this⟩
      clear H6
      have HIN := aMk (bAt_in hb)
      have HE1 := aMk (show parseP s = (match scanA s (y.p + 1) with | none => (zeroPt, 140) | some z => finP s z.1 ⟨widthS y, true, z.2⟩) by rw [HE.out, HX.out]; show (if bAt s y.p 59 = true then _ else _) = _; rw [if_pos hb])
      clear HE HX
      cases hS2 : runS s (stepsFrom 0) ⟨y.p + 1, zeroSb2, y.n⟩ with
      | none =>
       have HE2 := aMk (show parseP s = (zeroPt, 140) by rw [HE1.out]; unfold scanA; rw [← run_n s (y.p + 1) zeroSb2 y.n, hS2]; rfl)
       go_wp2_with (first | ((with_reducible refine gate_store (t := 24) (p := 28) rfl ?_); refine wpList_store_mid rfl 24 (.tmp 28) (.tmp 26) rfl w1.heap.size 2 (subC Lz zeroSb2) rfl rfl 48 (scC L s (y.p + 1) (widthS y) y.n) H7.out.blk info24 (Nat.le_of_ble_eq_true rfl) (by simp [Value.oneCell']) ?_; generalize hW7 : World.setRow w6 w1.heap.size _ = w7; have W7 := aMk hW7.symm; have H8 : Aside0 (CW w1 w7 w1.heap.size ⟨m.m, w5⟩ Lz s (y.p + 1) zeroSb2 y.n) := ⟨by rw [← hW7]; exact H7.out.reset rfl⟩; have K7 := aMk ((H8.out.kept k5 (blk_lt K5.out) KNE.out).trans K5.out); have A7 := aMk ((H8.out.kept _ (blk_lt A5.out) (by have := HLT.out; show w.heap.size ≠ w1.heap.size; omega)).trans A5.out); clear hW7) | (go_at_call 26; ((refine (all_calls HG1.out rfl H8.out.keep (by have := HV.out.p0; omega) HIN.out HP.out).mono ?_); rw [hS2]; rintro e w8 ⟨rfl, hbl, hkp⟩; have B8 := aMk hbl; have K8 := aMk ((hkp.2 k5 (blk_lt K7.out) KNE.out).trans K7.out); have A8 := aMk ((hkp.2 _ (blk_lt A7.out) (by have := HLT.out; omega)).trans A7.out); clear hbl hkp; have c12 := pat_c12 K8.out; have z12 := blk_frozen K8.out 12)) | ((with_reducible refine gate_store (t := 26) (p := 2) rfl ?_); refine wpList_store_row rfl 26 (.tmp 2) (.tmp 35) rfl w.heap.size (patC Lz Lz zeroPt) rfl rfl 26 (patC Lz Lz zeroPt) ((Below.heap_setCell w8 _ _ _ (by have q1 := HLT.out; have q2 := HKG.out.2; show w.heap.size ≠ k5; omega)).trans A8.out) info26 rfl (by simp [Value.oneCell']) ?_))
       exact bodyPost_ret (results_ct results15 _ _ w.heap.size 26 (patC Lz Lz zeroPt) (0, 0) _ rfl (setRow_heap _ _ _ _ _ _ ((Below.heap_setCell w8 _ _ _ (by have q1 := HLT.out; have q2 := HKG.out.2; show w.heap.size ≠ k5; omega)).trans A8.out)) Try.underlying26 rfl info26) rfl (doneQ_zero HE2.out (below_setRow (below_set (below_then HB.out (Nat.le_of_lt HLT.out) B8.out) (by have q1 := HLT.out; have q2 := HKG.out.2; omega)) (Nat.le_refl _)))
      | some y2 =>
       have HE2 := aMk (show parseP s = finP s y2.p ⟨widthS y, true, widthS y2⟩ by rw [HE1.out]; unfold scanA; rw [← run_n s (y.p + 1) zeroSb2 y.n, hS2]; rfl)
       go_wp2_with (first | ((with_reducible refine gate_store (t := 24) (p := 28) rfl ?_); refine wpList_store_mid rfl 24 (.tmp 28) (.tmp 26) rfl w1.heap.size 2 (subC Lz zeroSb2) rfl rfl 48 (scC L s (y.p + 1) (widthS y) y.n) H7.out.blk info24 (Nat.le_of_ble_eq_true rfl) (by simp [Value.oneCell']) ?_; generalize hW7 : World.setRow w6 w1.heap.size _ = w7; have W7 := aMk hW7.symm; have H8 : Aside0 (CW w1 w7 w1.heap.size ⟨m.m, w5⟩ Lz s (y.p + 1) zeroSb2 y.n) := ⟨by rw [← hW7]; exact H7.out.reset rfl⟩; have K7 := aMk ((H8.out.kept k5 (blk_lt K5.out) KNE.out).trans K5.out); have A7 := aMk ((H8.out.kept _ (blk_lt A5.out) (by have := HLT.out; show w.heap.size ≠ w1.heap.size; omega)).trans A5.out); clear hW7) | (go_at_call 26; ((refine (all_calls HG1.out rfl H8.out.keep (by have := HV.out.p0; omega) HIN.out HP.out).mono ?_); rw [hS2]; rintro e w8 ⟨rfl, hinv, hkp, m2, L2, hc⟩; have HV2 := aMk hinv; have H9 := aMk hc; have KP := aMk hkp; have K8 := aMk ((hkp.2 k5 (blk_lt K7.out) KNE.out).trans K7.out); clear hinv hkp hc; have c12 := pat_c12 K8.out; have z12 := blk_frozen K8.out 12; have b9 : Aside0 ((w8.setCell ⟨k5, 12, none⟩ (.bool true)).heap[w1.heap.size]? = some (.cells (scC L2 s y2.p (widthS y2) y2.n) 48 (0, 0))) := ⟨(Below.heap_setCell w8 _ _ _ (fun e => KNE.out e.symm)).trans H9.out.blk⟩; have K9 : Aside0 ((w8.setCell ⟨k5, 12, none⟩ (.bool true)).heap[k5]? = some (.cells (patC L Lz ⟨widthS y, true, zeroSb2⟩) 26 (0, 0))) := ⟨blk_put K8.out 12 _ rfl⟩; have e2 : (w8.setCell ⟨k5, 12, none⟩ (.bool true)).cell? ⟨w1.heap.size, 2, none⟩ = _ := (blk_cell b9.out 2).trans rfl; have e3 : (w8.setCell ⟨k5, 12, none⟩ (.bool true)).cell? ⟨w1.heap.size, 3, none⟩ = _ := (blk_cell b9.out 3).trans rfl; have e4 : (w8.setCell ⟨k5, 12, none⟩ (.bool true)).cell? ⟨w1.heap.size, 4, none⟩ = _ := (blk_cell b9.out 4).trans rfl; have e5 : (w8.setCell ⟨k5, 12, none⟩ (.bool true)).cell? ⟨w1.heap.size, 5, none⟩ = _ := (blk_cell b9.out 5).trans rfl; have e6 : (w8.setCell ⟨k5, 12, none⟩ (.bool true)).cell? ⟨w1.heap.size, 6, none⟩ = _ := (blk_cell b9.out 6).trans rfl; have e7 : (w8.setCell ⟨k5, 12, none⟩ (.bool true)).cell? ⟨w1.heap.size, 7, none⟩ = _ := (blk_cell b9.out 7).trans rfl; have e8 : (w8.setCell ⟨k5, 12, none⟩ (.bool true)).cell? ⟨w1.heap.size, 8, none⟩ = _ := (blk_cell b9.out 8).trans rfl; have e9 : (w8.setCell ⟨k5, 12, none⟩ (.bool true)).cell? ⟨w1.heap.size, 9, none⟩ = _ := (blk_cell b9.out 9).trans rfl; have e10 : (w8.setCell ⟨k5, 12, none⟩ (.bool true)).cell? ⟨w1.heap.size, 10, none⟩ = _ := (blk_cell b9.out 10).trans rfl; have e11 : (w8.setCell ⟨k5, 12, none⟩ (.bool true)).cell? ⟨w1.heap.size, 11, none⟩ = _ := (blk_cell b9.out 11).trans rfl; have e12 : (w8.setCell ⟨k5, 12, none⟩ (.bool true)).cell? ⟨w1.heap.size, 12, none⟩ = _ := (blk_cell b9.out 12).trans rfl; have e13 : (w8.setCell ⟨k5, 12, none⟩ (.bool true)).cell? ⟨w1.heap.size, 13, none⟩ = _ := (blk_cell b9.out 13).trans rfl)) | ((with_reducible refine gate_store (t := 24) (p := 40) rfl ?_); refine wpList_store_mid rfl 24 (.tmp 40) (.tmp 39) rfl k5 13 (subC L2 (widthS y2)) rfl rfl 26 (patC L Lz ⟨widthS y, true, zeroSb2⟩) K9.out info24 (Nat.le_of_ble_eq_true rfl) (by simp [Value.oneCell']) ?_))
       go_meet
       case rel => exact ⟨mid_two HP.out hS HV.out hS2 HV2.out rfl HE2.out H7.out W7.out KP.out H9.out rfl rfl rfl K5.out KNE.out HKG.out.2 HLT.out A5.out⟩
    case rest =>
     obtain ⟨w7, rfl⟩ : ∃ w7 : World, w7 = wc := ⟨_, rfl⟩
     refine hK _ _ ?_
     clear hK
     obtain ⟨q, ⟨pos, ng, neg⟩, L2, M2, hq1, hq2, hq3, hq4, hq5, hq6, hq7, hq8⟩ := hcut.out
     have HFN := aMk hq1
     have BK := aMk hq2
     have BA := aMk hq3
     have OW := aMk hq5
     have SP := aMk hq6
     have SN := aMk hq7
     have BB := aMk (below_then HB.out (Nat.le_of_lt HLT.out) hq8)
     have GG := aMk (Glob_below HG1.out hq8)
     have LL := aMk (Nat.le_of_lt HLT.out)
     clear hcut hq1 hq2 hq3 hq5 hq6 hq7 hq8 H6 K5 A5 HE HX
     cases d2 : decide (q < (s.size : Int)) with
     | true =>
      have HE3 := aMk (show parseP s = (zeroPt, 140) by rw [HFN.out]; unfold finP; rw [if_pos (of_decide_eq_true d2)])
      go_wp2_with (first | ((with_reducible refine gate_store (t := 26) (p := 2) rfl ?_); refine wpList_store_row rfl 26 (.tmp 2) (.tmp 48) rfl w.heap.size (patC Lz Lz zeroPt) rfl rfl 26 (patC Lz Lz zeroPt) BA.out info26 rfl (by simp [Value.oneCell']) ?_))
      exact bodyPost_ret (results_ct results15 _ _ w.heap.size 26 (patC Lz Lz zeroPt) (0, 0) _ rfl (setRow_heap _ _ _ _ _ _ BA.out) Try.underlying26 rfl info26) rfl (doneQ_zero HE3.out (below_setRow BB.out (Nat.le_refl _)))
     | false =>
      have HF2 := aMk (show parseP s = if checkP ⟨pos, ng, neg⟩ = 0 then (⟨pos, ng, neg⟩, 0) else (zeroPt, checkP ⟨pos, ng, neg⟩) by rw [HFN.out]; unfold finP; rw [if_neg (of_decide_eq_false d2)])
      obtain ⟨ec, hec⟩ : ∃ ec : Int, checkP ⟨pos, ng, neg⟩ = ec := ⟨_, rfl⟩
      have HEC := aMk hec
      clear hec HFN
      cases d3 : (ec != 0) with
      | true =>
       have HE3 := aMk (show parseP s = (zeroPt, ec) by rw [HF2.out, HEC.out, if_neg (bne_iff_ne.mp d3)])
       go_wp2_with (first | ((with_reducible refine gate_dst (N := 49) rfl ?_); refine wpList_load_row rfl 26 (.tmp 5) rfl k5 rfl 26 (patC L2 M2 ⟨pos, ng, neg⟩) (0, 0) _ BK.out Try.underlying26 rfl info26 ?_) | (go_at_call 11; ((refine (pcheck_walk L2 M2 pos ng neg _ GG.out SP.out SN.out).mono ?_); rw [HEC.out]; rintro e w8 ⟨rfl, hb⟩; have B8 := aMk hb; clear hb; have BA8 := aMk ((B8.out.block _ (blk_lt BA.out)).trans BA.out))) | ((with_reducible refine gate_store (t := 26) (p := 2) rfl ?_); refine wpList_store_row rfl 26 (.tmp 2) (.tmp 53) rfl w.heap.size (patC Lz Lz zeroPt) rfl rfl 26 (patC Lz Lz zeroPt) BA8.out info26 rfl (by simp [Value.oneCell']) ?_))
       exact bodyPost_ret (results_ct results15 _ _ w.heap.size 26 (patC Lz Lz zeroPt) (0, 0) _ rfl (setRow_heap _ _ _ _ _ _ BA8.out) Try.underlying26 rfl info26) rfl (doneQ_zero HE3.out (below_setRow (below_step BB.out B8.out) (Nat.le_refl _)))
      | false =>
       have hz : ec = 0 := by simpa using d3
       have HE3 := aMk (show parseP s = (⟨pos, ng, neg⟩, 0) by rw [HF2.out, HEC.out, if_pos hz])
       go_wp2_with (first | ((with_reducible refine gate_dst (N := 49) rfl ?_); refine wpList_load_row rfl 26 (.tmp 5) rfl k5 rfl 26 (patC L2 M2 ⟨pos, ng, neg⟩) (0, 0) _ BK.out Try.underlying26 rfl info26 ?_) | ((with_reducible refine gate_dst (N := 55) rfl ?_); refine wpList_load_row rfl 26 (.tmp 5) rfl k5 rfl 26 (patC L2 M2 ⟨pos, ng, neg⟩) (0, 0) _ BK8.out Try.underlying26 rfl info26 ?_) | (go_at_call 11; ((refine (pcheck_walk L2 M2 pos ng neg _ GG.out SP.out SN.out).mono ?_); rw [HEC.out]; rintro e w8 ⟨rfl, hb⟩; have B8 := aMk hb; clear hb; have BA8 := aMk ((B8.out.block _ (blk_lt BA.out)).trans BA.out); have BK8 := aMk ((B8.out.block _ (blk_lt BK.out)).trans BK.out))) | ((with_reducible refine gate_store (t := 26) (p := 2) rfl ?_); refine wpList_store_row rfl 26 (.tmp 2) (.tmp 55) rfl w.heap.size (patC L2 M2 ⟨pos, ng, neg⟩) rfl rfl 26 (patC Lz Lz zeroPt) BA8.out info26 rfl (by simp [Value.oneCell']) ?_))
       exact bodyPost_ret (results_ct results15 _ _ w.heap.size 26 (patC L2 M2 ⟨pos, ng, neg⟩) (0, 0) _ rfl (setRow_heap _ _ _ _ _ _ BA8.out) Try.underlying26 rfl info26) rfl (doneQ_some HE3.out OW.out B8.out BA8.out LL.out (below_step BB.out B8.out) (Nat.le_refl _))
theorem wr_small {x : Int} (h0 : 0 ≤ x) (h1 : x ≤ 1000000) : wrap64 x = x := by unfold wrap64; omega
theorem run_l0 (s : ByteArray) (b p : Int) (hs : s.size ≤ 1000) (hp : 0 ≤ p) (hp1 : p ≤ 1000) : ∀ (d : Nat) (x : Int) (k : Nat), 0 ≤ x → x ≤ 1000 → d = ((s.size : Int) - (p + x)).toNat → d < k → quipuref14_run.l0 k s p b x = some (x + runF s b d (p + x))
 | d, x, 0, _, _, _, hk => absurd hk (by omega)
 | 0, x, k + 1, h0, h1, hd, hk => by
  unfold quipuref14_run.l0
  rw [wr_small (x := p + x) (by omega) (by omega), if_neg (by omega)]
  simp [runF]
 | d + 1, x, k + 1, h0, h1, hd, hk => by
  unfold quipuref14_run.l0
  rw [wr_small (x := p + x) (by omega) (by omega), if_pos (by omega), if_pos (by omega)]
  have hb : bAt s (p + x) b = (bt s (p + x) == b) := by unfold bAt; rw [dTr (by omega), Bool.true_and]
  by_cases h : bt s (p + x) = b
  ·rw [if_pos h, wr_small (x := x + 1) (by omega) (by omega), run_l0 s b p hs hp hp1 d (x + 1) k (by omega) (by omega) (by omega) (by omega)]
   have : runF s b (d + 1) (p + x) = 1 + runF s b d (p + x + 1) := by simp only [runF]; rw [hb, if_pos (beT h)]
   rw [this, show p + (x + 1) = p + x + 1 by omega]
   congr 1
   omega
  ·rw [if_neg h]
   have : runF s b (d + 1) (p + x) = 0 := by simp only [runF]; rw [hb, if_neg (by simpa using h)]
   rw [this]
   simp
theorem rrun_calls (s : ByteArray) (b p : Int) (w : World) (hs : s.size ≤ 1000) (hp : 0 ≤ p) (hp1 : p ≤ 1000) : Calls Try.prog 74 #[.string s, .int .i64 p, .int .u8 b] w fun e w' => e = .returned (.int .i64 (runN s b p)) ∧ Below w.heap.size w w' :=
 (quipuref14_run.calls (((s.size : Int) - (p + 0)).toNat + 1) s p b (runN s b p) w (by
  show quipuref14_run.l0 _ s p b 0 = _
  rw [run_l0 s b p hs hp hp1 _ 0 _ (Int.le_refl _) (by omega) rfl (Nat.lt_succ_self _)]
  unfold runN
  simp)).mono fun e w' h => ⟨h.1, h.2.below⟩
theorem stopB_iff (st : ByteArray) (b : Int) (h0 : 0 ≤ b) (h1 : b ≤ 255) : stopB st b = true ↔ ∃ i : Nat, i < st.size ∧ bt st i = b := by
 unfold stopB
 rw [← Lib.contains_iff_indexByte, List.contains_iff_mem, List.mem_iff_getElem]
 have hl : st.data.toList.length = st.size := by simp
 constructor
 ·rintro ⟨i, hi, he⟩
  refine ⟨i, by omega, ?_⟩
  rw [← bt_at st (i : Int) (by rw [Int.toNat_natCast]; omega)]
  have : st[(i : Int).toNat]'(by rw [Int.toNat_natCast]; omega) = b.toNat.toUInt8 := by
   rw [← he]
   simp [ByteArray.getElem_eq_getElem_data]
  rw [this]
  simp
  omega
 ·rintro ⟨i, hi, he⟩
  refine ⟨i, by omega, ?_⟩
  rw [← bt_at st (i : Int) (by rw [Int.toNat_natCast]; omega)] at he
  have e2 : st.data.toList[i]'(by omega) = st[(i : Int).toNat]'(by rw [Int.toNat_natCast]; omega) := by simp [ByteArray.getElem_eq_getElem_data]
  rw [e2]
  have e3 : (st[(i : Int).toNat]'(by rw [Int.toNat_natCast]; omega)).toNat = b.toNat := by omega
  apply UInt8.toNat.inj
  rw [e3]
  simp
  omega
theorem stop_in (s st : ByteArray) (p : Int) (hs : s.size ≤ 128) (hst : st.size ≤ 100) (h0 : 0 ≤ p) (h1 : p < s.size) : ∀ (d : Nat) (j : Int) (k : Nat), 0 ≤ j → j + d = st.size → 2 * d + 2 ≤ k →
  ((∃ i : Nat, j ≤ i ∧ i < st.size ∧ bt st i = bt s p) → quipuref14_stop.l1 k s st false p j = some p) ∧
  (∀ r, (¬∃ i : Nat, j ≤ i ∧ i < st.size ∧ bt st i = bt s p) → (∀ k', k - (2 * d + 2) ≤ k' → quipuref14_stop.l0 k' s st false (p + 1) = some r) → quipuref14_stop.l1 k s st false p j = some r)
 | d, j, 0, _, _, hk => absurd hk (by omega)
 | d, j, 1, _, _, hk => absurd hk (by omega)
 | 0, j, k + 2, hj, hd, hk => by
  refine ⟨fun ⟨i, a, b, _⟩ => absurd b (by omega), fun r _ h => ?_⟩
  unfold quipuref14_stop.l1
  rw [if_neg (by omega)]
  unfold quipuref14_stop.j3
  rw [if_neg (by decide), wr_small (x := p + 1) (by omega) (by omega)]
  exact h k (by omega)
 | d + 1, j, k + 2, hj, hd, hk => by
  have ih := stop_in s st p hs hst h0 h1 d (j + 1) k (by omega) (by omega) (by omega)
  obtain ⟨n, rfl⟩ : ∃ n : Nat, j = n := ⟨j.toNat, by omega⟩
  have hu : quipuref14_stop.l1 (k + 2) s st false p n = if bt s p = bt st n then some p else quipuref14_stop.l1 k s st false p (n + 1) := by
   rw [quipuref14_stop.l1, if_pos (by omega), quipuref14_stop.j3, if_pos (show (!false) = true from rfl), if_pos h0, if_pos h1, if_pos hj, if_pos (by omega), wr_small (x := (n : Int) + 1) (by omega) (by omega)]
  rw [hu]
  by_cases he : bt s p = bt st n
  ·refine ⟨fun _ => if_pos he, fun r hn _ => absurd ⟨n, Int.le_refl _, by omega, he.symm⟩ hn⟩
  ·rw [if_neg he]
   refine ⟨fun ⟨i, a, b, c⟩ => ih.1 ⟨i, ?_, b, c⟩, fun r hn h => ih.2 r (fun ⟨i, a, b, c⟩ => hn ⟨i, by omega, b, c⟩) (fun k' hk' => h k' (by omega))⟩
   rcases Int.lt_or_eq_of_le a with h | h
   ·omega
   ·have : i = n := by omega
    subst this
    exact absurd c.symm he
theorem stop_out (s st : ByteArray) (hs : s.size ≤ 128) (hst : st.size ≤ 100) (h39 : stopB st 39 = false) : ∀ (d : Nat) (q : Bool) (p : Int) (k : Nat), 0 ≤ p → p + d = s.size → (2 * st.size + 8) * (d + 1) ≤ k → quipuref14_stop.l0 k s st q p = some (stopF s st d q p)
 | d, q, p, 0, _, _, hk => by rw [Nat.mul_succ] at hk; omega
 | 0, q, p, k + 1, h0, hd, hk => by
  unfold quipuref14_stop.l0
  rw [if_neg (by omega)]
  simp [stopF]
  omega
 | d + 1, q, p, k + 1, h0, hd, hk => by
  have hk2 : (2 * st.size + 8) * (d + 1) + (2 * st.size + 8) ≤ k + 1 := by rw [Nat.mul_succ] at hk; exact hk
  have hnext : ∀ q' k', k - (2 * st.size + 5) ≤ k' → quipuref14_stop.l0 k' s st q' (p + 1) = some (stopF s st d q' (p + 1)) := fun q' k' hk' => stop_out s st hs hst h39 d q' (p + 1) k' (by omega) (by omega) (by omega)
  have hj : ∀ q', quipuref14_stop.j1 k s st q' p = if (!q' && stopB st (bt s p)) = true then some p else some (stopF s st d q' (p + 1)) := by
   intro q'
   obtain ⟨k, rfl⟩ : ∃ k', k = k' + 3 := ⟨k - 3, by omega⟩
   unfold quipuref14_stop.j1
   cases q' with
   | true =>
    rw [if_neg (by simp)]
    unfold quipuref14_stop.l1
    have : ∀ c : Bool, quipuref14_stop.j3 (k + 1) s st true p 0 c = quipuref14_stop.j3 (k + 1) s st true p 0 c := fun _ => rfl
    split
    ·unfold quipuref14_stop.j3
     rw [if_neg (by decide), wr_small (x := p + 1) (by omega) (by omega)]
     exact hnext true _ (by omega)
    ·unfold quipuref14_stop.j3
     rw [if_neg (by decide), wr_small (x := p + 1) (by omega) (by omega)]
     exact hnext true _ (by omega)
   | false =>
    have hi := stop_in s st p hs hst h0 (by omega) st.size 0 (k + 2) (Int.le_refl _) (by omega) (by omega)
    have hb := bt_range s p
    cases hc : stopB st (bt s p) with
    | true =>
     obtain ⟨i, a, b⟩ := (stopB_iff st _ hb.1 hb.2).mp hc
     rw [if_pos (by decide)]
     exact hi.1 ⟨i, by omega, a, b⟩
    | false =>
     rw [if_neg (by decide)]
     refine hi.2 _ (fun ⟨i, _, a, b⟩ => ?_) (fun k' hk' => hnext false k' (by omega))
     rw [(stopB_iff st _ hb.1 hb.2).mpr ⟨i, a, b⟩] at hc
     exact absurd hc (by decide)
  unfold quipuref14_stop.l0
  rw [if_pos (by omega), if_pos h0]
  simp only [stopF]
  by_cases h : bt s p = 39
  ·rw [if_pos h, if_pos h, hj (!q), h, h39]
   simp
  ·rw [if_neg h, if_neg h, hj q]
   split <;> rfl
theorem rstop_calls (s st : ByteArray) (p : Int) (w : World) (hs : s.size ≤ 128) (hst : st.size ≤ 100) (h39 : stopB st 39 = false) (h0 : 0 ≤ p) (hp : p ≤ s.size) : Calls Try.prog 48 #[.string s, .int .i64 p, .string st] w fun e w' => e = .returned (.int .i64 (stopN s st p)) ∧ Below w.heap.size w w' :=
 (quipuref14_stop.calls ((2 * st.size + 8) * (((s.size : Int) - p).toNat + 1)) s p st (stopN s st p) w (by
  show quipuref14_stop.l0 _ s st false p = _
  exact stop_out s st hs hst h39 _ false p _ h0 (by omega) (Nat.le_refl _))).mono fun e w' h => ⟨h.1, h.2.below⟩
theorem stops39 : stopB stops1 39 = false ∧ stopB stops2 39 = false := ⟨by decide, by decide⟩
structure FW (w0 w : World) (g : Nat) (L : Sl) (x : Sb) : Prop where
 box : w.heap[w0.heap.size]? = some (.cells (subC L x) 24 (0, 0))
 res : w.heap[g]? = some (.cells (subC Lz zeroSb2) 24 (0, 0))
 below : Below w0.heap.size w0 w
 lt : w0.heap.size < g
namespace FW
variable {w0 w w1 : World} {g : Nat} {L : Sl} {x : Sb} (h : FW w0 w g L x)
include h
theorem step (hb : Below w.heap.size w w1) : FW w0 w1 g L x := ⟨blk_below h.box hb, blk_below h.res hb, below_step h.below hb, h.lt⟩
theorem drew1 : FW w0 w.drew g L x := h.step (below_drew1 (Below.refl _ _))
theorem drewN (n : Nat) : FW w0 (w.drewN n) g L x := h.step (pw_below_drewN (Below.refl _ _) n)
theorem put {y : Sb} (i : Nat) (v : Value) (he : (subC L x).setIfInBounds i v = subC L y) : FW w0 (w.setCell ⟨w0.heap.size, i, none⟩ v) g L y :=
 ⟨blk_put h.box i v he, (Below.heap_setCell w _ _ g (show g ≠ w0.heap.size by have := h.lt; omega)).trans h.res, below_set h.below (Nat.le_refl _), h.lt⟩
theorem fin (cs : Array Value) : Below w0.heap.size w0 (w.setRow g cs) := below_setRow h.below (Nat.le_of_lt h.lt)
end FW
def RetF (L : Sl) (w : World) (r : Option (Int × Sb)) (e : Ending) (w' : World) : Prop :=
 Below w.heap.size w w' ∧ match r with
  | some y => e = .returned (.tuple #[subV L y.2, .int .i64 y.1, .bool true])
  | none => ∃ y q, e = .returned (.tuple #[subV L y, .int .i64 q, .bool false])
def RetO (L : Sl) (h : Sb) (p : Int) (w : World) (r : Option (Int × Sb)) (e : Ending) (w' : World) : Prop :=
 Below w.heap.size w w' ∧ match r with
  | some y => e = .returned (.tuple #[subV L y.2, .int .i64 y.1, .bool true])
  | none => e = .returned (.tuple #[subV L h, .int .i64 p, .bool false])
theorem retO_F {L : Sl} {h : Sb} {p : Int} {w : World} {r : Option (Int × Sb)} {e : Ending} {w' : World} (hr : RetO L h p w r e w') : RetF L w r e w' := by
 obtain ⟨h1, h2⟩ := hr
 cases r with
 | none => exact ⟨h1, h, p, h2⟩
 | some y => exact ⟨h1, h2⟩
theorem results47 : Try.f47.results = #[.cell 8 24, .tmp 9, .tmp 10] := by kernel_rfl
set_option maxHeartbeats 16000000 in
set_option maxRecDepth 100000 in
theorem filler_own (L : Sl) (s : ByteArray) (p : Int) (h : Sb) (k : Int) (w : World) (h0 : 0 ≤ p) (hs : s.size ≤ 128) : Calls Try.prog 47 #[.string s, .int .i64 p, subV L h, .int .i64 k] w (RetO L h p w (fillF s p h k)) := by
 have HP := aMk (show 0 ≤ p ∧ s.size ≤ 128 from ⟨h0, hs⟩)
 have p5 := eq_true h0
 have hx5 := bt_at s p
 have hs2 : s.size ≤ 281474976710656 := by omega
 clear h0 hs
 cases c3b : decide (p < (s.size : Int)) with
 | false =>
  have HE2 := aMk (show fillF s p h k = some (p, h) by unfold fillF; rw [if_neg (by unfold bAt; rw [c3b]; simp)])
  have c3 : ¬ p < (s.size : Int) := of_decide_eq_false c3b
  have c4 : (s.size : Int) ≤ p := by omega
  have c5 := dTr c4
  exact aP62
 | true =>
  have c3 : p < (s.size : Int) := of_decide_eq_true c3b
  have c5 : decide ((s.size : Int) ≤ p) = false := dFa (by omega)
  have q5 := eq_true c3
  cases c6 : (bt s p == 42) with
  | false =>
   have HE2 := aMk (show fillF s p h k = some (p, h) by unfold fillF; rw [if_neg (by unfold bAt; rw [c3b, c6]; simp)])
   exact aP62
  | true =>
   have HE := aMk (show fillF s p h k = if (runeS s (p + 1) == 0 || !h.pad.toList.isEmpty) = true then none else some (p + 1 + runeS s (p + 1), {h with pad := s.extract (p + 1).toNat (p + 1 + runeS s (p + 1)).toNat, pa := k}) by unfold fillF; rw [if_pos (by unfold bAt; rw [c3b, c6]; rfl)])
   have hw1 : IntKind.i64.wrap (p + 1) = p + 1 := IntWalk.i64_in _ (by have := HP.out; omega)
   clear c3
   cases r1 : (runeS s (p + 1) == 0) with
   | true =>
    have HE2 := aMk (show fillF s p h k = none by rw [HE.out, r1]; rfl)
    exact aP61
   | false =>
    cases r2 : h.pad.toList.isEmpty with
    | false =>
     have HE2 := aMk (show fillF s p h k = none by rw [HE.out, r1, r2]; rfl)
     exact aP61
    | true =>
     have HR := aMk (runeS_in s (p + 1) (beq_eq_false_iff_ne.mp r1))
     have HE2 := aMk (show fillF s p h k = some (p + 1 + runeS s (p + 1), {h with pad := s.extract (p + 1).toNat (p + 1 + runeS s (p + 1)).toNat, pa := k}) by rw [HE.out, r1, r2]; rfl)
     rw [HE2.out]
     obtain ⟨q, hq⟩ : ∃ q, p + 1 + runeS s (p + 1) = q := ⟨_, rfl⟩
     rw [hq] at HR ⊢
     have hw : IntKind.i64.wrap (p + 1 + runeS s (p + 1)) = q := by rw [hq]; exact IntWalk.i64_in _ (aP136)
     have b1 : 0 ≤ p + 1 := by have := HP.out; omega
     have b2 : p + 1 ≤ q := by have := HR.out; omega
     have b3 : q ≤ (s.size : Int) := by have := HR.out; omega
     have b4 : (p + 1).toNat ≤ q.toNat := by omega
     have b5 : q.toNat ≤ s.size := by omega
     have b6 : 0 ≤ q := by omega
     obtain ⟨pd, hpd⟩ : ∃ pd, s.extract (p + 1).toNat q.toNat = pd := ⟨_, rfl⟩
     clear hq HE2 HE
     rw [hpd]
     go_enter Try.func47, Try.ntmps47
     go_wp2_with (first | ((with_reducible refine gate_dst (N := 6) rfl ?_); refine box_event ?hg (N := 6) ?hd (cs := subC L h) (t := 24) ?hr ?_; (case hd => rfl); (case hg => rfl); (case hr => first | (go_simp; done) | (go_simp; rfl)); intro gb hgb w1 hbox hbb; subst hgb; have HQ : Aside0 (HW w w1 L h) := ⟨⟨hbox, hbb⟩⟩; clear hbox hbb) | ((with_reducible refine gate_dst (N := 8) rfl ?_); refine box_event ?hg (N := 8) ?hd (cs := subC Lz zeroSb2) (t := 24) ?hr ?_; (case hd => rfl); (case hg => rfl); (case hr => first | (go_simp; done) | (go_simp; rfl)); intro g hgb w2 hbox hbb; have HF : Aside0 (FW w w2 g L h) := ⟨⟨blk_below HQ.out.box hbb, hbox, below_step HQ.out.below hbb, by have := blk_lt HQ.out.box; omega⟩⟩; clear hbox hbb hgb HQ; have x9 : World.cell? _ ⟨w.heap.size, 9, none⟩ = some (.string h.pad) := (blk_cell HF.out.box 9).trans rfl; have z9 := blk_frozen HF.out.box 9; have z10 := blk_frozen HF.out.box 10; have x10 : World.cell? _ ⟨w.heap.size, 10, none⟩ = some (.int .i64 h.pa) := (blk_cell HF.out.box 10).trans rfl) | (go_at_call 68; (with_reducible refine (rrune_calls s (p + 1) _ hs2).mono ?_); rintro e w3 ⟨rfl, hb⟩; have nf := aMk (HF.out.step hb); clear HF hb x9 x10 z9 z10; have HF := nf; clear nf; have x9 : World.cell? _ ⟨w.heap.size, 9, none⟩ = some (.string h.pad) := (blk_cell HF.out.box 9).trans rfl; have z9 := blk_frozen HF.out.box 9; have z10 := blk_frozen HF.out.box 10; have x10 : World.cell? _ ⟨w.heap.size, 10, none⟩ = some (.int .i64 h.pa) := (blk_cell HF.out.box 10).trans rfl) | ((with_reducible refine gate_dst (N := 48) rfl ?_); refine wpList_load_row rfl 24 (.tmp 6) rfl w.heap.size rfl 24 (subC L {h with pad := pd, pa := k}) (0, 0) _ ((HF.out.put (y := {h with pad := pd}) 9 (.string pd) rfl).put (y := {h with pad := pd, pa := k}) 10 (.int .i64 k) rfl).box Try.underlying24 rfl info24 ?_) | ((with_reducible refine gate_store (t := 24) (p := 8) rfl ?_); refine wpList_store_row rfl 24 (.tmp 8) (.tmp 48) rfl g (subC L {h with pad := pd, pa := k}) rfl rfl 24 (subC Lz zeroSb2) ((HF.out.put (y := {h with pad := pd}) 9 (.string pd) rfl).put (y := {h with pad := pd, pa := k}) 10 (.int .i64 k) rfl).res info24 rfl (by simp [Value.oneCell']) ?_))
     exact bodyPost_ret (results_ctt results47 _ _ g 24 (subC L {h with pad := pd, pa := k}) (0, 0) _ rfl (setRow_heap _ _ _ _ _ _ ((HF.out.put (y := {h with pad := pd}) 9 (.string pd) rfl).put (y := {h with pad := pd, pa := k}) 10 (.int .i64 k) rfl).res) Try.underlying24 rfl info24) rfl ⟨((HF.out.put (y := {h with pad := pd}) 9 (.string pd) rfl).put (y := {h with pad := pd, pa := k}) 10 (.int .i64 k) rfl).fin _, rfl⟩
theorem filler_calls (L : Sl) (s : ByteArray) (p : Int) (h : Sb) (k : Int) (w : World) (h0 : 0 ≤ p) (hs : s.size ≤ 128) : Calls Try.prog 47 #[.string s, .int .i64 p, subV L h, .int .i64 k] w (RetF L w (fillF s p h k)) := (filler_own L s p h k w h0 hs).mono fun e w' hr => retO_F hr
end Go.Proofs.Ytacnjemndfmbhaa.Q
end
section
namespace Go.Proofs.Ytacnjemndfmbhaa.Q
open Go.RowKit Go.Proofs.Ytacnjemndfmbhaa.A Go.Proofs.YtacnjemndfmbhaaW.PrintWords Go.Proofs.YtacnjemndfmbhaaW.PrintLast Go.Proofs.YtacnjemndfmbhaaW.PrintMore
set_option linter.unusedVariables false
set_option linter.unusedSimpArgs false
theorem bAt_nat (s : ByteArray) (q : Nat) (b : UInt8) (h : q < s.data.toList.length) : bAt s q b.toNat = (b == s.data.toList[q]) := by
 have hl : s.data.toList.length = s.size := by simp
 have hq : q < s.size := by omega
 unfold bAt
 rw [dTr (by omega), Bool.true_and, ← bt_at s (q : Int) (by rw [Int.toNat_natCast]; exact hq)]
 have : s[(q : Int).toNat]'(by rw [Int.toNat_natCast]; exact hq) = s.data.toList[q] := by simp [ByteArray.getElem_eq_getElem_data]
 rw [this]
 cases hb : (b == s.data.toList[q]) with
 | true => rw [beq_iff_eq.mp hb]; simp
 | false =>
  have hn := beq_eq_false_iff_ne.mp hb
  refine beF (fun e => hn ?_)
  exact UInt8.toNat.inj (by omega)
theorem pre_cons (s : ByteArray) (q : Nat) (b : UInt8) (l : List UInt8) : Lib.hasPrefix (s.data.toList.drop q) (b :: l) = (bAt s q b.toNat && Lib.hasPrefix (s.data.toList.drop (q + 1)) l) := by
 unfold Lib.hasPrefix
 by_cases h : q < s.data.toList.length
 ·rw [List.drop_eq_getElem_cons h, List.isPrefixOf_cons_cons, bAt_nat s q b h]
 ·have hl : s.data.toList.length = s.size := by simp
  rw [List.drop_eq_nil_of_le (by omega)]
  have : bAt s q b.toNat = false := by unfold bAt; rw [dFa (by omega)]; rfl
  rw [this]
  rfl
theorem ext_drop (s : ByteArray) (q : Nat) : (s.extract q s.size).data.toList = s.data.toList.drop q := by
 have hl : s.data.toList.length = s.size := by simp
 rw [ByteArray.data_extract, Array.toList_extract, List.extract_eq_take_drop]
 exact List.take_of_length_le (by rw [List.length_drop]; omega)
theorem expB_at (s : ByteArray) (q : Int) (h0 : 0 ≤ q) : expB s q = (bAt s q 69 && (bAt s (q + 1) 48 || (bAt s (q + 1) 43 && bAt s (q + 2) 48))) := by
 obtain ⟨n, rfl⟩ : ∃ n : Nat, q = n := ⟨q.toNat, by omega⟩
 have hnil : ∀ l : List UInt8, Lib.hasPrefix l [] = true := fun l => by unfold Lib.hasPrefix; cases l <;> rfl
 unfold expB
 rw [Int.toNat_natCast, ext_drop, pre_cons, pre_cons, pre_cons, pre_cons, pre_cons, hnil, hnil]
 show ((bAt s n 69 && (bAt s ((n + 1 : Nat) : Int) 48 && true)) || (bAt s n 69 && (bAt s ((n + 1 : Nat) : Int) 43 && (bAt s ((n + 1 + 1 : Nat) : Int) 48 && true)))) = _
 rw [show ((n + 1 : Nat) : Int) = (n : Int) + 1 from rfl, show ((n + 1 + 1 : Nat) : Int) = (n : Int) + 2 by omega]
 generalize bAt s n 69 = a
 generalize bAt s ((n : Int) + 1) 48 = b
 generalize bAt s ((n : Int) + 1) 43 = c
 generalize bAt s ((n : Int) + 2) 48 = d
 revert a b c d
 decide
theorem runN_step (s : ByteArray) (b p : Int) : runN s b p = if bAt s p b = true then 1 + runN s b (p + 1) else 0 := by
 unfold runN
 by_cases h : p < s.size
 ·rw [show ((s.size : Int) - p).toNat = ((s.size : Int) - (p + 1)).toNat + 1 by omega]
  rfl
 ·rw [show ((s.size : Int) - p).toNat = 0 by omega, if_neg (by unfold bAt; rw [dFa h]; simp)]
  rfl
theorem bAt_one {s : ByteArray} {p a b : Int} (h : bAt s p a = true) (hn : a ≠ b) : bAt s p b = false := by
 unfold bAt at *
 simp only [Bool.and_eq_true, beq_iff_eq] at h
 rw [h.1, h.2, Bool.true_and]
 exact beF hn
theorem runN_pos (s : ByteArray) (b p : Int) : 0 ≤ runN s b p ∧ decide (0 < runN s b p) = bAt s p b := by
 have h0 : ∀ p, 0 ≤ runN s b p := fun p => (runF_range s b _ p).1
 refine ⟨h0 p, ?_⟩
 rw [runN_step]
 have := h0 (p + 1)
 cases bAt s p b with
 | true => rw [if_pos rfl]; exact dTr (by omega)
 | false => rw [if_neg (by decide)]; rfl
theorem exp_doc (s : ByteArray) (q : Int) (h : Sb) (a n : Int) (h0 : 0 ≤ q) (ha : runN s 43 (q + 1) = a) (hn : runN s 48 (q + 1 + a) = n) :
  (bAt s q 69 = false → expF s q h = (q, h)) ∧ ((decide (a ≤ 1) && decide (0 < n)) = false → expF s q h = (q, h)) ∧ (bAt s q 69 = true → (decide (a ≤ 1) && decide (0 < n)) = true → expF s q h = (q + (1 + a + n), {h with ep := a == 1, em := n})) := by
 have he := expB_at s q h0
 have hp2 := runN_pos s 43 (q + 1 + 1)
 have hno : expB s q = false → expF s q h = (q, h) := fun e => by unfold expF; rw [if_neg (by rw [e]; decide)]
 have hs := runN_step s 43 (q + 1)
 have hs2 := runN_step s 43 (q + 1 + 1)
 cases c1 : bAt s (q + 1) 43 with
 | false =>
  rw [c1, if_neg (by decide)] at hs
  have : a = 0 := by omega
  subst this
  have hpos := (runN_pos s 48 (q + 1 + 0)).2
  rw [hn, show q + 1 + 0 = q + 1 by omega] at hpos
  rw [c1, Bool.false_and, Bool.or_false] at he
  rw [hpos]
  refine ⟨fun e => hno (by rw [he, e]; rfl), fun e => hno (by rw [he]; simp at e; rw [e]; simp), fun e1 e2 => ?_⟩
  simp at e2
  unfold expF
  rw [if_pos (by rw [he, e1, e2]; rfl), nextP_no c1, c1, show q + 1 = q + 1 + 0 by omega, hn]
  simp
  omega
 | true =>
  rw [c1, if_pos rfl] at hs
  have h48 := bAt_one c1 (b := 48) (by decide)
  rw [c1, h48, Bool.false_or, Bool.true_and] at he
  cases c2 : bAt s (q + 1 + 1) 43 with
  | true =>
   rw [c2, if_pos rfl] at hs2
   have hp3 := (runN_pos s 43 (q + 1 + 1 + 1)).1
   have : decide (a ≤ 1) = false := dFa (by omega)
   have h482 := bAt_one c2 (b := 48) (by decide)
   rw [show q + 1 + 1 = q + 2 by omega] at h482
   have hf : expB s q = false := by rw [he, h482]; simp
   rw [this]
   exact ⟨fun _ => hno hf, fun _ => hno hf, fun _ e => absurd e (by simp)⟩
  | false =>
   rw [c2, if_neg (by decide)] at hs2
   have : a = 1 := by omega
   subst this
   have hpos := (runN_pos s 48 (q + 1 + 1)).2
   rw [hn, show q + 1 + 1 = q + 2 by omega] at hpos
   rw [hpos]
   refine ⟨fun e => hno (by rw [he, e]; rfl), fun e => hno (by rw [he]; simp at e; rw [e]; simp), fun e1 e2 => ?_⟩
   simp at e2
   unfold expF
   rw [if_pos (by rw [he, e1, e2]; rfl), nextP_yes c1, c1, hn]
   simp
   omega
end Go.Proofs.Ytacnjemndfmbhaa.Q
end
section
namespace Go.Proofs.Ytacnjemndfmbhaa.Q
open Go.RowKit Go.Proofs.Ytacnjemndfmbhaa.A Go.Proofs.Ytacnjemndfmbhaa.R1 Go.Proofs.YtacnjemndfmbhaaW.PrintWords Go.Proofs.YtacnjemndfmbhaaW.PrintLast Go.Proofs.YtacnjemndfmbhaaW.PrintMore
set_option linter.unusedVariables false
set_option linter.unusedSimpArgs false
def Semi (t : ByteArray) : Prop := t.size = 0 ∨ bt t 0 = 59
theorem bt_left (a t : ByteArray) {p : Int} (h0 : 0 ≤ p) (h : p < a.size) : bt (a ++ t) p = bt a p := bt_app_left a t p h0 h
theorem bt_right (a t : ByteArray) {p : Int} (h0 : 0 ≤ p) : bt (a ++ t) (a.size + p) = bt t p := bt_app_right a t p h0
theorem bt_semi {a t : ByteArray} (ht : Semi t) (h : (0 : Int) < t.size) : bt (a ++ t) a.size = 59 := by
 have := bt_right a t (Int.le_refl 0)
 rw [Int.add_zero] at this
 rw [this]
 rcases ht with h1 | h1
 ·omega
 ·exact h1
theorem bAt_left {a t : ByteArray} (ht : Semi t) {p b : Int} (h0 : 0 ≤ p) (hp : p ≤ a.size) (hb : b ≠ 59) : bAt (a ++ t) p b = bAt a p b := by
 unfold bAt
 have hs := size_app a t
 by_cases h : p < a.size
 ·rw [bt_left a t h0 h, dTr h, dTr (by omega)]
 ·obtain rfl : p = a.size := by omega
  rw [dFa h, Bool.false_and]
  by_cases h2 : (0 : Int) < t.size
  ·rw [bt_semi ht h2, beF (fun e => hb e.symm), Bool.and_false]
  ·rw [dFa (by omega), Bool.false_and]
theorem bAt_right (u b : ByteArray) {p c : Int} (h0 : 0 ≤ p) : bAt (u ++ b) (u.size + p) c = bAt b p c := by
 unfold bAt
 rw [bt_right u b h0, size_app]
 congr 1
 exact decide_eq_decide.mpr (by omega)
theorem runF_left {a t : ByteArray} (ht : Semi t) {b : Int} (hb : b ≠ 59) : ∀ (d e : Nat) (p : Int), 0 ≤ p → p + d = a.size → d ≤ e → runF (a ++ t) b e p = runF a b d p
 | 0, 0, p, _, _, _ => rfl
 | 0, e + 1, p, h0, hd, _ => by
  have h : bAt a p b = false := by unfold bAt; rw [dFa (by omega)]; rfl
  show (if bAt (a ++ t) p b = true then _ else _) = _
  rw [bAt_left ht h0 (by omega) hb, h]
  rfl
 | d + 1, 0, p, _, _, h => by omega
 | d + 1, e + 1, p, h0, hd, h => by
  show (if bAt (a ++ t) p b = true then 1 + runF (a ++ t) b e (p + 1) else 0) = (if bAt a p b = true then 1 + runF a b d (p + 1) else 0)
  rw [bAt_left ht h0 (by omega) hb, runF_left ht hb d e (p + 1) (by omega) (by omega) (by omega)]
theorem runN_left {a t : ByteArray} (ht : Semi t) {p b : Int} (h0 : 0 ≤ p) (hp : p ≤ a.size) (hb : b ≠ 59) : runN (a ++ t) b p = runN a b p := by
 have := size_app a t
 exact runF_left ht hb _ _ p h0 (by omega) (by omega)
theorem runF_right (u b : ByteArray) (c : Int) : ∀ (d : Nat) (p : Int), 0 ≤ p → runF (u ++ b) c d (u.size + p) = runF b c d p
 | 0, p, _ => rfl
 | d + 1, p, h0 => by
  show (if bAt (u ++ b) (u.size + p) c = true then 1 + runF (u ++ b) c d (u.size + p + 1) else 0) = (if bAt b p c = true then 1 + runF b c d (p + 1) else 0)
  rw [bAt_right u b h0, Int.add_assoc, runF_right u b c d (p + 1) (by omega)]
theorem runN_right (u b : ByteArray) {p c : Int} (h0 : 0 ≤ p) : runN (u ++ b) c (u.size + p) = runN b c p := by
 unfold runN
 rw [runF_right u b c _ p h0, size_app]
 congr 1
 omega
theorem nextP_left {a t : ByteArray} (ht : Semi t) {p b : Int} (h0 : 0 ≤ p) (hp : p ≤ a.size) (hb : b ≠ 59) : nextP (a ++ t) p b = nextP a p b := by unfold nextP; rw [bAt_left ht h0 hp hb]
theorem nextP_right (u b : ByteArray) {p c : Int} (h0 : 0 ≤ p) : nextP (u ++ b) (u.size + p) c = u.size + nextP b p c := by
 unfold nextP
 rw [bAt_right u b h0]
 split
 ·omega
 ·rfl
theorem expB_left {a t : ByteArray} (ht : Semi t) {q : Int} (h0 : 0 ≤ q) (hp : q ≤ a.size) : expB (a ++ t) q = expB a q := by
 rw [expB_at _ q h0, expB_at _ q h0, bAt_left ht h0 hp (by decide)]
 cases h1 : bAt a q 69 with
 | false => rfl
 | true =>
  have i1 := bAt_in h1
  rw [bAt_left ht (by omega) i1 (by decide), bAt_left ht (by omega) i1 (by decide)]
  cases h2 : bAt a (q + 1) 43 with
  | false => rfl
  | true =>
   have i2 := bAt_in h2
   rw [bAt_left ht (by omega) (show q + 2 ≤ a.size by omega) (by decide)]
theorem expB_right (u b : ByteArray) {p : Int} (h0 : 0 ≤ p) : expB (u ++ b) (u.size + p) = expB b p := by
 rw [expB_at _ _ (by omega), expB_at _ _ h0, Int.add_assoc, Int.add_assoc, bAt_right u b h0, bAt_right u b (by omega), bAt_right u b (by omega), bAt_right u b (by omega)]
theorem ext_left (a t : ByteArray) {i j : Nat} (h : j ≤ a.size) : (a ++ t).extract i j = a.extract i j := by
 apply bytes_inj
 rw [ByteArray.data_extract, ByteArray.data_extract, ByteArray.data_append, Array.toList_extract, Array.toList_extract, Array.toList_append]
 have hl : a.data.toList.length = a.size := rfl
 rw [List.extract_eq_take_drop, List.extract_eq_take_drop, List.drop_append]
 rw [List.take_append_of_le_length]
 rw [List.length_drop]
 omega
theorem ext_right (u b : ByteArray) {i j : Int} (h0 : 0 ≤ i) (h : i ≤ j) : (u ++ b).extract (u.size + i).toNat (u.size + j).toNat = b.extract i.toNat j.toNat := by
 apply bytes_inj
 rw [ByteArray.data_extract, ByteArray.data_extract, ByteArray.data_append, Array.toList_extract, Array.toList_extract, Array.toList_append]
 have hl : u.data.toList.length = u.size := rfl
 rw [List.extract_eq_take_drop, List.extract_eq_take_drop, show ((u.size : Int) + i).toNat = u.data.toList.length + i.toNat by omega, List.drop_append]
 rw [List.drop_eq_nil_of_le (by omega), List.nil_append]
 congr 1
 ·omega
 ·congr 1
  omega
theorem sec_lo (c : Int) (h : 2 ≤ (sec c).2.2) : 194 ≤ c ∧ 128 ≤ (sec c).1 := by
 unfold sec at h ⊢
 (repeat' split) <;> (repeat' split at h) <;> simp_all <;> omega
theorem bt_list (c : ByteArray) (i : Nat) (h : i < c.data.toList.length) : bt c (i : Int) = (c.data.toList[i].toNat : Int) := by
 unfold bt
 rw [dif_pos (show ((i : Int)).toNat < c.size by rw [Int.toNat_natCast]; exact h)]
 rfl
theorem rune_bytes {c : ByteArray} (h : IsRune c) : (∃ b, c.data.toList = [b] ∧ b.toNat < 128) ∨ (∃ b r, c.data.toList = b :: r ∧ ∀ x ∈ b :: r, 128 ≤ x.toNat) := by
 rcases rune_first h with h1 | ⟨b, r, e, hb, hr⟩
 ·exact .inl h1
 ·refine .inr ⟨b, r, e, ?_⟩
  obtain ⟨h0, hz⟩ := h
  have hl : c.data.toList.length = c.size := rfl
  rw [e, List.length_cons] at hl
  have hr1 : 1 ≤ r.length := by cases r with | nil => exact absurd rfl hr | cons _ _ => simp
  have hg := runeS_sec c 0 (Int.le_refl _) (by omega)
  rw [h0] at hg
  unfold G at hg
  by_cases c1 : (sec (bt c 0)).2.2 ≤ 1
  ·rw [if_pos c1] at hg; omega
  ·rw [if_neg c1] at hg
   have hlo := (sec_lo (bt c 0) (by omega)).2
   split at hg
   ·rename_i hw
    simp only [Bool.and_eq_true, Bool.or_eq_true, decide_eq_true_eq, W] at hw
    obtain ⟨⟨_, w1, _⟩, w2, w3⟩ := hw
    intro x hx
    obtain ⟨i, hi, rfl⟩ := List.getElem_of_mem hx
    have hbt := bt_list c i (by rw [e]; exact hi)
    simp only [e] at hbt
    rw [List.length_cons] at hi
    have hi4 : i = 0 ∨ i = 1 ∨ i = 2 ∨ i = 3 := by
     have := (sec_range (bt c 0)).2
     omega
    rcases hi4 with rfl | rfl | rfl | rfl
    ·show 128 ≤ b.toNat; omega
    ·have hbt' : bt c 1 = _ := hbt
     rw [show (0 : Int) + 1 = 1 by omega] at w1
     omega
    ·have hbt' : bt c 2 = _ := hbt
     rw [show (0 : Int) + 2 = 2 by omega] at w2
     rcases w2 with w2 | w2 <;> omega
    ·have hbt' : bt c 3 = _ := hbt
     rw [show (0 : Int) + 3 = 3 by omega] at w3
     rcases w3 with w3 | w3 <;> omega
   ·omega
def parB (l : List UInt8) (q : Bool) : Bool := l.foldl (fun q b => if b = 39 then !q else q) q
theorem parB_app (a b : List UInt8) (q : Bool) : parB (a ++ b) q = parB b (parB a q) := List.foldl_append
theorem parB_none : ∀ (l : List UInt8) (q : Bool), (∀ b ∈ l, b ≠ 39) → parB l q = q
 | [], q, _ => rfl
 | b :: r, q, h => by
  show parB r (if b = 39 then !q else q) = q
  rw [if_neg (h b (by simp)), parB_none r q (fun x hx => h x (by simp [hx]))]
theorem quote_data {c : ByteArray} : quoteC c ↔ c.data.toList = [39] := by unfold quoteC; rw [Lib.toList_data]
theorem rune_no39 {c : ByteArray} (h : IsRune c) (hq : ¬ quoteC c) : ∀ b ∈ c.data.toList, b ≠ 39 := by
 rcases rune_bytes h with ⟨b, e, hb⟩ | ⟨b, r, e, hb⟩
 ·intro x hx
  rw [e, List.mem_singleton] at hx
  subst hx
  intro h39
  exact hq (quote_data.mpr (by rw [e, h39]))
 ·intro x hx h39
  rw [e] at hx
  have := hb x hx
  rw [h39] at this
  exact absurd this (by decide)
theorem join_cons (c : ByteArray) (cs : List ByteArray) : (joinB (c :: cs)).data.toList = c.data.toList ++ (joinB cs).data.toList := by
 show (c ++ joinB cs).data.toList = _
 rw [ByteArray.data_append, Array.toList_append]
theorem run_par : ∀ (cs : List ByteArray) (sk : Bool) (x : Int) (l : List S53) (t : ByteArray) (s' : Int × List S53 × ByteArray), (∀ c ∈ cs, IsRune c) → (sk = true → nextQ cs = true) → (x = 0 ∨ x = 1) → A.runS cs sk x l t = some s' → decide (s'.1 = 1) = parB (joinB cs).data.toList (if sk = true then !decide (x = 1) else decide (x = 1))
 | [], sk, x, l, t, s', hc, hs, hx, h => by
  obtain rfl := Option.some.inj h
  cases sk with
  | false => rfl
  | true => exact absurd (hs rfl) (by simp [nextQ])
 | c :: cs, true, x, l, t, s', hc, hs, hx, h => by
  have hq : quoteC c := by simpa [nextQ] using hs rfl
  have ih := run_par cs false x l _ s' (fun c hc' => hc c (by simp [hc'])) (by simp) hx h
  rw [join_cons, parB_app, ih, quote_data.mp hq]
  congr 1
  show decide (x = 1) = !(!decide (x = 1))
  rw [Bool.not_not]
 | c :: cs, false, x, l, t, s', hc, hs, hx, h => by
  have hcs : ∀ c ∈ cs, IsRune c := fun c hc' => hc c (by simp [hc'])
  rw [join_cons, parB_app]
  unfold A.runS at h
  by_cases hq : quoteC c
  ·rw [if_pos hq] at h
   have e : parB c.data.toList (if false = true then !decide (x = 1) else decide (x = 1)) = !decide (x = 1) := by
    rw [quote_data.mp hq]
    rfl
   rw [e]
   by_cases hn : nextQ cs = true
   ·rw [if_pos hn] at h
    exact run_par cs true x l t s' hcs (fun _ => hn) hx h
   ·rw [if_neg hn] at h
    have ih := run_par cs false (1 - x) l t s' hcs (by simp) (by omega) h
    rw [ih]
    congr 1
    rcases hx with rfl | rfl <;> decide
  ·rw [if_neg hq] at h
   rw [parB_none _ _ (rune_no39 (hc c (by simp)) hq)]
   by_cases h0 : x = 0
   ·rw [if_pos h0] at h
    by_cases hk : 0 < kindS c
    ·rw [if_pos hk] at h
     split at h
     ·exact run_par cs false x _ _ s' hcs (by simp) hx h
     ·exact absurd h (by simp)
    ·rw [if_neg hk] at h
     split at h
     ·exact absurd h (by simp)
     ·exact run_par cs false x _ _ s' hcs (by simp) hx h
   ·rw [if_neg h0] at h
    exact run_par cs false x _ _ s' hcs (by simp) hx h
theorem parse_par (u : ByteArray) (h : (parseT u).2 = 0) : parB u.data.toList false = false := by
 rw [parseT_eq] at h
 obtain ⟨hw, l, t, hr, _⟩ := A.parse_ok u (L := (A.parseT u).1) (Prod.ext rfl h)
 have hj := join_runes u u.size 0 (Int.le_refl _) (by omega) (by omega) hw
 rw [show u.extract (0 : Int).toNat u.size = u by simp] at hj
 have := run_par _ false 0 [] _ _ (runesAt_runes u u.size 0 (Int.le_refl _) (by omega) (by omega)) (by simp) (.inl rfl) hr
 rw [hj] at this
 simpa using this.symm
def quoF (s st : ByteArray) : Nat → Bool → Int → Bool
 | 0, q, _ => q
 | d + 1, q, p => if bt s p = 39 then quoF s st d (!q) (p + 1) else if (!q && stopB st (bt s p)) = true then q else quoF s st d q (p + 1)
theorem ext_cons (s : ByteArray) {p E : Int} (h0 : 0 ≤ p) (h1 : p < E) (h2 : E ≤ s.size) : ∃ b : UInt8, (b.toNat : Int) = bt s p ∧ (s.extract p.toNat E.toNat).data.toList = b :: (s.extract (p + 1).toNat E.toNat).data.toList := by
 have hl : s.data.toList.length = s.size := rfl
 have hp : p.toNat < s.data.toList.length := by omega
 refine ⟨s.data.toList[p.toNat], ?_, ?_⟩
 ·have := bt_list s p.toNat hp
  rw [show ((p.toNat : Nat) : Int) = p by omega] at this
  exact this.symm
 ·simp only [ByteArray.data_extract, Array.toList_extract, List.extract_eq_take_drop]
  rw [List.drop_eq_getElem_cons hp, show E.toNat - p.toNat = (E.toNat - (p + 1).toNat) + 1 by omega, List.take_succ_cons, show p.toNat + 1 = (p + 1).toNat by omega]
theorem ext_nil (s : ByteArray) (p : Int) : (s.extract p.toNat p.toNat).data.toList = [] := by
 simp [ByteArray.data_extract, Array.toList_extract, List.extract_eq_take_drop]
theorem quo_par (s st : ByteArray) : ∀ (d : Nat) (q : Bool) (p : Int), 0 ≤ p → p + d = s.size → quoF s st d q p = parB (s.extract p.toNat (stopF s st d q p).toNat).data.toList q
 | 0, q, p, h0, hd => by
  show q = parB (s.extract p.toNat p.toNat).data.toList q
  rw [ext_nil]
  rfl
 | d + 1, q, p, h0, hd => by
  have step : ∀ q', quoF s st d q' (p + 1) = parB (s.extract p.toNat (stopF s st d q' (p + 1)).toNat).data.toList (if bt s p = 39 then !q' else q') := by
   intro q'
   have r := stopF_range s st d q' (p + 1)
   obtain ⟨b, hb, he⟩ := ext_cons s (p := p) (E := stopF s st d q' (p + 1)) h0 (by omega) (by omega)
   rw [quo_par s st d q' (p + 1) (by omega) (by omega), he]
   show _ = parB _ (if b = 39 then !(if bt s p = 39 then !q' else q') else (if bt s p = 39 then !q' else q'))
   by_cases hbt : bt s p = 39
   ·have h39 : b = 39 := by
     apply UInt8.toNat_inj.mp
     show b.toNat = 39
     omega
    rw [if_pos hbt, if_pos h39, Bool.not_not]
   ·have h39 : b ≠ 39 := by
     intro e
     rw [e] at hb
     exact hbt (by rw [← hb]; rfl)
    rw [if_neg hbt, if_neg h39]
  unfold quoF stopF
  by_cases hbt : bt s p = 39
  ·rw [if_pos hbt, if_pos hbt, step, if_pos hbt, Bool.not_not]
  ·rw [if_neg hbt, if_neg hbt]
   by_cases hs : (!q && stopB st (bt s p)) = true
   ·rw [if_pos hs, if_pos hs, ext_nil]
    rfl
   ·rw [if_neg hs, if_neg hs, step, if_neg hbt]
end Go.Proofs.Ytacnjemndfmbhaa.Q
end
