import Derived.Test.YtacnjemndfmbhaaC11
import Derived.Test.YtacnjemndfmbhaaC14
namespace Go.Proofs.Ytacnjemndfmbhaa
open Go.RowKit
theorem aP139 {p : Prop} (h : p := by have := HR2.out; have := HY.out; have := HP.out; omega) : p := h
theorem aP63 {p : Prop} (h : p := by
    go_wp2_with (first | (go_at_call 74; (with_reducible refine (rrun_calls s 43 (q + 1) _ (by have := HP.out; omega) (by have := HR2.out; have := HY.out; have := HP.out; omega) (by have := HR2.out; have := HY.out; have := HP.out; omega)).mono ?_); rw [HC.out]; rintro e w6 ⟨rfl, hb⟩; have nf := aMk (HF.out.step hb); clear HF hb; have HF := nf; clear nf) | (go_at_call 74; (with_reducible refine (rrun_calls s 48 (q + 1 + c) _ (by have := HP.out; omega) (by have := HR2.out; have := HY.out; have := HP.out; omega) (by have := HR2.out; have := HY.out; have := HP.out; omega)).mono ?_); rw [HDD.out]; rintro e w6 ⟨rfl, hb⟩; have nf := aMk (HF.out.step hb); clear HF hb; have HF := nf; clear nf; have x8 : World.cell? _ ⟨w.heap.size, 8, none⟩ = some (.bool h2.ep) := (blk_cell HF.out.box 8).trans rfl; have z8 := blk_frozen HF.out.box 8; have x7 : World.cell? _ ⟨w.heap.size, 7, none⟩ = some (.int .i64 h2.em) := (blk_cell HF.out.box 7).trans rfl; have z7 := blk_frozen HF.out.box 7) | ((with_reducible refine gate_dst (N := 84) rfl ?_); refine wpList_load_row rfl 24 (.tmp 5) rfl w.heap.size rfl 24 (subC L h2) (0, 0) _ HF.out.box Try.underlying24 rfl info24 ?_) | ((with_reducible refine gate_store (t := 24) (p := 6) rfl ?_); refine wpList_store_row rfl 24 (.tmp 6) (.tmp 84) rfl g (subC L h2) rfl rfl 24 (subC Lz zeroSb2) HF.out.res info24 rfl (by simp [Value.oneCell']) ?_))
    exact bodyPost_ret (results_ctt results51 _ _ g 24 (subC L h2) (0, 0) _ rfl (setRow_heap _ _ _ _ _ _ HF.out.res) Try.underlying24 rfl info24) rfl (retF_some (HM2.out.trans (congrArg some HE2.out)) (HF.out.fin _))) : p := h
theorem aP64 {p : Prop} (h : p := by exact bodyPost_ret (results_ctt results51 _ _ g 24 (subC L h2) (0, 0) _ rfl (setRow_heap _ _ _ _ _ _ HF.out.res) Try.underlying24 rfl info24) rfl (retF_some (HM2.out.trans (congrArg some HE2.out)) (HF.out.fin _))) : p := h
theorem aP138 {p : Prop} (h : p := by unfold leastS at hn; rw [if_pos hpr] at hn; unfold mx at hn; (repeat' split at hn) <;> omega) : p := h
theorem aP137 {p : Prop} (h : p := by unfold leastS mx at hn; (repeat' split at hn) <;> omega) : p := h
end Go.Proofs.Ytacnjemndfmbhaa
section
namespace Go.Proofs.Ytacnjemndfmbhaa.Q
open Go.RowKit Go.Proofs.Ytacnjemndfmbhaa.A Go.Proofs.Ytacnjemndfmbhaa.R1 Go.Proofs.YtacnjemndfmbhaaW.PrintWords Go.Proofs.YtacnjemndfmbhaaW.PrintLast Go.Proofs.YtacnjemndfmbhaaW.PrintMore
set_option linter.unusedVariables false
set_option linter.unusedSimpArgs false
theorem plF_left {a t : ByteArray} (ht : Semi t) : ∀ (d e : Nat) (p : Int) (G : List Int) (z : Int), 0 ≤ p → p + d = a.size → p + e = (a ++ t).size → plF (a ++ t) e p G z = plF a d p G z
 | 0, 0, p, G, z, _, _, _ => rfl
 | 0, e + 1, p, G, z, h0, hd, he => by
  have hs := size_app a t
  obtain rfl : p = a.size := by omega
  unfold plF
  rw [bt_semi ht (by omega)]
  rfl
 | d + 1, 0, p, G, z, h0, hd, he => by
  have hs := size_app a t
  omega
 | d + 1, e + 1, p, G, z, h0, hd, he => by
  have ih := fun G z => plF_left (a := a) ht d e (p + 1) G z (by omega) (by omega) (by omega)
  show (if bt (a ++ t) p = 35 then _ else _) = (if bt a p = 35 then _ else _)
  rw [bt_left a t h0 (by omega), ih, ih, ih]
theorem plF_right (u b : ByteArray) : ∀ (d : Nat) (p : Int) (G : List Int) (z : Int), 0 ≤ p → plF (u ++ b) d (u.size + p) G z = (plF b d p G z).map (fun x => ((u.size : Int) + x.1, x.2))
 | 0, p, G, z, _ => rfl
 | d + 1, p, G, z, h0 => by
  have ih := fun G z => plF_right u b d (p + 1) G z (by omega)
  unfold plF
  rw [bt_right u b h0, Int.add_assoc, ih, ih, ih]
  (repeat' split) <;> rfl
theorem placesF_left {a t : ByteArray} (ht : Semi t) {p : Int} (h0 : 0 ≤ p) (hp : p ≤ a.size) (h : Sb) : placesF (a ++ t) p h = placesF a p h := by
 have hs := size_app a t
 unfold placesF
 rw [plF_left ht ((a.size : Int) - p).toNat _ p [0] 0 h0 (by omega) (by omega)]
theorem placesF_right (u b : ByteArray) {p : Int} (h0 : 0 ≤ p) (h : Sb) : placesF (u ++ b) (u.size + p) h = (placesF b p h).map (fun x => ((u.size : Int) + x.1, x.2)) := by
 have hs := size_app u b
 unfold placesF
 rw [show (((u ++ b).size : Int) - (u.size + p)).toNat = ((b.size : Int) - p).toNat by omega, plF_right u b _ p [0] 0 h0]
 cases plF b ((b.size : Int) - p).toNat p [0] 0 with
 | none => rfl
 | some x =>
  show (groupF x.2.1 x.2.2 h).map _ = ((groupF x.2.1 x.2.2 h).map _).map _
  cases groupF x.2.1 x.2.2 h <;> rfl
theorem fracF_left {a t : ByteArray} (ht : Semi t) {p : Int} (h0 : 0 ≤ p) (hp : p ≤ a.size) (h : Sb) : fracF (a ++ t) p h = fracF a p h := by
 unfold fracF
 rw [bAt_left ht h0 hp (by decide)]
 cases h1 : bAt a p 46 with
 | false => rfl
 | true =>
  have i1 := bAt_in h1
  have r1 := run_range a 48 (p + 1) i1
  rw [runN_left ht (by omega) i1 (by decide), runN_left ht (by omega) r1.2 (by decide)]
theorem fracF_right (u b : ByteArray) {p : Int} (h0 : 0 ≤ p) (hp : p ≤ b.size) (h : Sb) : fracF (u ++ b) (u.size + p) h = (fracF b p h).map (fun x => ((u.size : Int) + x.1, x.2)) := by
 unfold fracF
 rw [bAt_right u b h0]
 cases h1 : bAt b p 46 with
 | false => rfl
 | true =>
  have i1 := bAt_in h1
  have r1 := run_range b 48 (p + 1) i1
  rw [show (u.size : Int) + p + 1 = u.size + (p + 1) by omega, runN_right u b (by omega), show (u.size : Int) + (p + 1) + runN b 48 (p + 1) = u.size + (p + 1 + runN b 48 (p + 1)) by omega, runN_right u b (by omega)]
  rw [if_pos rfl, if_pos rfl]
  split
  ·rfl
  ·show some _ = some _
   congr 2
   omega
theorem expF_left {a t : ByteArray} (ht : Semi t) {p : Int} (h0 : 0 ≤ p) (hp : p ≤ a.size) (h : Sb) : expF (a ++ t) p h = expF a p h := by
 unfold expF
 rw [expB_left ht h0 hp]
 cases h1 : expB a p with
 | false => rfl
 | true =>
  have h2 := h1
  rw [expB_at a p h0, Bool.and_eq_true] at h2
  have i1 := bAt_in h2.1
  have i2 := next_range (s := a) (p := p + 1) (b := 43) i1
  rw [nextP_left ht (by omega) i1 (by decide), runN_left ht (by omega) i2.2 (by decide), bAt_left ht (by omega) i1 (by decide)]
theorem expF_right (u b : ByteArray) {p : Int} (h0 : 0 ≤ p) (h : Sb) : expF (u ++ b) (u.size + p) h = (u.size + (expF b p h).1, (expF b p h).2) := by
 unfold expF
 rw [expB_right u b h0]
 cases h1 : expB b p with
 | false => rfl
 | true =>
  have i2 : p + 1 ≤ nextP b (p + 1) 43 := by
   unfold nextP
   split <;> omega
  rw [if_pos rfl, if_pos rfl, show (u.size : Int) + p + 1 = u.size + (p + 1) by omega, nextP_right u b (by omega), runN_right u b (by omega), bAt_right u b (by omega)]
  show (_, _) = (_, _)
  congr 1
  omega
theorem frac_range {s : ByteArray} {p : Int} {h : Sb} {x : Int × Sb} (hp : p ≤ s.size) (hx : fracF s p h = some x) : p ≤ x.1 ∧ x.1 ≤ s.size := by
 unfold fracF at hx
 split at hx
 ·split at hx
  ·exact absurd hx (by simp)
  ·rename_i h1 h2
   obtain rfl := Option.some.inj hx
   have hi := bAt_in h1
   have r1 := run_range s 48 (p + 1) hi
   have r2 := run_range s 35 _ r1.2
   exact ⟨by show p ≤ p + 1 + runN s 48 (p + 1) + runN s 35 (p + 1 + runN s 48 (p + 1)); omega, r2.2⟩
 ·obtain rfl := Option.some.inj hx
  exact ⟨Int.le_refl _, hp⟩
theorem tailF_left {a t : ByteArray} (ht : Semi t) {p : Int} (h0 : 0 ≤ p) (hp : p ≤ a.size) (h : Sb) : tailF (a ++ t) p h = tailF a p h := by
 unfold tailF
 rw [fracF_left ht h0 hp]
 cases hx : fracF a p h with
 | none => rfl
 | some x =>
  have r := frac_range hp hx
  show some (expF (a ++ t) x.1 x.2) = some (expF a x.1 x.2)
  rw [expF_left ht (by omega) r.2]
theorem tailF_right (u b : ByteArray) {p : Int} (h0 : 0 ≤ p) (hp : p ≤ b.size) (h : Sb) : tailF (u ++ b) (u.size + p) h = (tailF b p h).map (fun x => ((u.size : Int) + x.1, x.2)) := by
 unfold tailF
 rw [fracF_right u b h0 hp]
 cases hx : fracF b p h with
 | none => rfl
 | some x =>
  have r := frac_range hp hx
  show some (expF (u ++ b) (u.size + x.1) x.2) = some _
  rw [expF_right u b (by omega)]
theorem runeS_left (a t : ByteArray) {p : Int} (h : runeS a p ≠ 0) : runeS (a ++ t) p = runeS a p := by
 rw [runeS_eq] at h ⊢
 exact runeS_app_left a t p h
theorem runeS_right (u b : ByteArray) {p : Int} (h0 : 0 ≤ p) : runeS (u ++ b) (u.size + p) = runeS b p := by
 rw [runeS_eq]
 by_cases h : p < b.size
 ·exact runeS_app_right u b p h0 h
 ·rw [runeS_out b p (by omega), runeS_out (u ++ b) (u.size + p) (by rw [size_app]; omega)]
theorem fillF_left {a t : ByteArray} (ht : Semi t) {p : Int} (h0 : 0 ≤ p) (hp : p ≤ a.size) {h : Sb} {k : Int} {x : Int × Sb} (hx : fillF a p h k = some x) : fillF (a ++ t) p h k = some x := by
 unfold fillF at hx ⊢
 rw [bAt_left ht h0 hp (by decide)]
 cases h1 : bAt a p 42 with
 | false => rw [h1] at hx; exact hx
 | true =>
  rw [h1, if_pos rfl] at hx
  rw [if_pos rfl]
  split at hx
  ·exact absurd hx (by simp)
  ·rename_i h2
   have hz : runeS a (p + 1) ≠ 0 := fun e => h2 (by rw [e]; rfl)
   have hr := runeS_in a (p + 1) hz
   rw [runeS_left a t hz, if_neg h2, ext_left a t (by omega)]
   exact hx
theorem fillF_right (u b : ByteArray) {p : Int} (h0 : 0 ≤ p) (h : Sb) (k : Int) : fillF (u ++ b) (u.size + p) h k = (fillF b p h k).map (fun x => ((u.size : Int) + x.1, x.2)) := by
 unfold fillF
 rw [bAt_right u b h0]
 cases h1 : bAt b p 42 with
 | false => rfl
 | true =>
  rw [if_pos rfl, if_pos rfl, show (u.size : Int) + p + 1 = u.size + (p + 1) by omega, runeS_right u b (by omega)]
  by_cases h2 : (runeS b (p + 1) == 0 || !h.pad.toList.isEmpty) = true
  ·rw [if_pos h2, if_pos h2]; rfl
  ·have hz : runeS b (p + 1) ≠ 0 := fun e => h2 (by rw [e]; rfl)
   have hr := runeS_in b (p + 1) hz
   rw [if_neg h2, if_neg h2, show (u.size : Int) + (p + 1) + runeS b (p + 1) = u.size + (p + 1 + runeS b (p + 1)) by omega, ext_right u b (by omega) (by omega)]
   rfl
theorem fillIf_left {a t : ByteArray} (ht : Semi t) {l : List S53} {p : Int} (h0 : 0 ≤ p) (hp : p ≤ a.size) {h : Sb} {k : Int} {x : Int × Sb} (hx : fillIf l a p h k = some x) : fillIf l (a ++ t) p h k = some x := by
 unfold fillIf at hx ⊢
 split
 ·rename_i hl; rw [if_pos hl] at hx; exact hx
 ·rename_i hl; rw [if_neg hl] at hx; exact fillF_left ht h0 hp hx
theorem fillIf_right (u b : ByteArray) (l : List S53) {p : Int} (h0 : 0 ≤ p) (h : Sb) (k : Int) : fillIf l (u ++ b) (u.size + p) h k = (fillIf l b p h k).map (fun x => ((u.size : Int) + x.1, x.2)) := by
 unfold fillIf
 split
 ·rfl
 ·exact fillF_right u b h0 h k
theorem stopF_left {a t st : ByteArray} (ht : Semi t) (hst : stopB st 59 = true) : ∀ (d e : Nat) (q : Bool) (p : Int), 0 ≤ p → p + d = a.size → p + e = (a ++ t).size → quoF a st d q p = false → stopF (a ++ t) st e q p = stopF a st d q p
 | 0, 0, q, p, _, _, _, _ => rfl
 | 0, e + 1, q, p, h0, hd, he, hq => by
  have hs := size_app a t
  obtain rfl : p = a.size := by omega
  have hq' : q = false := hq
  subst hq'
  unfold stopF
  rw [bt_semi ht (by omega), hst]
  rfl
 | d + 1, 0, q, p, h0, hd, he, hq => by
  have hs := size_app a t
  omega
 | d + 1, e + 1, q, p, h0, hd, he, hq => by
  unfold stopF
  unfold quoF at hq
  rw [bt_left a t h0 (by omega)]
  by_cases hbt : bt a p = 39
  ·rw [if_pos hbt] at hq
   rw [if_pos hbt, if_pos hbt]
   exact stopF_left ht hst d e _ (p + 1) (by omega) (by omega) (by omega) hq
  ·rw [if_neg hbt] at hq
   rw [if_neg hbt, if_neg hbt]
   by_cases hs : (!q && stopB st (bt a p)) = true
   ·rw [if_pos hs, if_pos hs]
   ·rw [if_neg hs] at hq
    rw [if_neg hs, if_neg hs]
    exact stopF_left ht hst d e _ (p + 1) (by omega) (by omega) (by omega) hq
theorem stopF_right (u b st : ByteArray) : ∀ (d : Nat) (q : Bool) (p : Int), 0 ≤ p → stopF (u ++ b) st d q (u.size + p) = u.size + stopF b st d q p
 | 0, q, p, h0 => rfl
 | d + 1, q, p, h0 => by
  have ih := fun q => stopF_right u b st d q (p + 1) (by omega)
  unfold stopF
  rw [bt_right u b h0, Int.add_assoc, ih, ih]
  (repeat' split) <;> rfl
theorem stopN_right (u b st : ByteArray) {p : Int} (h0 : 0 ≤ p) : stopN (u ++ b) st (u.size + p) = u.size + stopN b st p := by
 have hs := size_app u b
 unfold stopN
 rw [show (((u ++ b).size : Int) - (u.size + p)).toNat = ((b.size : Int) - p).toNat by omega]
 exact stopF_right u b st _ false p h0
theorem stopN_left {a t st : ByteArray} (ht : Semi t) (hst : stopB st 59 = true) {p : Int} (h0 : 0 ≤ p) (hp : p ≤ a.size) (hk : (tokT a st p).2 = 0) : stopN (a ++ t) st p = stopN a st p := by
 have hs := size_app a t
 unfold stopN
 refine stopF_left ht hst _ _ false p h0 (by omega) (by omega) ?_
 rw [quo_par a st _ false p h0 (by omega)]
 exact parse_par _ hk
theorem tokT_left {a t st : ByteArray} (ht : Semi t) (hst : stopB st 59 = true) {p : Int} (h0 : 0 ≤ p) (hp : p ≤ a.size) (hk : (tokT a st p).2 = 0) : tokT (a ++ t) st p = tokT a st p := by
 have r := stop_range (s := a) (st := st) h0 hp
 unfold tokT
 rw [stopN_left ht hst h0 hp hk, ext_left a t (by omega)]
theorem tokT_right (u b st : ByteArray) {p : Int} (h0 : 0 ≤ p) (hp : p ≤ b.size) : tokT (u ++ b) st (u.size + p) = tokT b st p := by
 have r := stop_range (s := b) (st := st) h0 hp
 unfold tokT
 rw [stopN_right u b st h0, ext_right u b h0 r.1]
theorem semi1 : stopB stops1 59 = true ∧ stopB stops2 59 = true := ⟨by decide, by decide⟩
def shS (n : Int) (y : St) : St := ⟨n + y.p, y.h, y.n⟩
theorem step_left {a t : ByteArray} (ht : Semi t) {i : Nat} (hi : i ≤ 7) {y y' : St} (h0 : 0 ≤ y.p) (hp : y.p ≤ a.size) (h : stepS a i y = some y') : stepS (a ++ t) i y = some y' := by
 have hc : i = 0 ∨ i = 1 ∨ i = 2 ∨ i = 3 ∨ i = 4 ∨ i = 5 ∨ i = 6 ∨ i = 7 := by omega
 rcases hc with rfl | rfl | rfl | rfl | rfl | rfl | rfl | rfl
 ·obtain ⟨x, hx, rfl⟩ := Option.map_eq_some_iff.mp (show (fillF a y.p y.h 0).map _ = _ from h)
  show (fillF (a ++ t) y.p y.h 0).map _ = _
  rw [fillF_left ht h0 hp hx]; rfl
 ·have he : (if (tokT a stops1 y.p).2 = 0 then some (⟨stopN a stops1 y.p, {y.h with p := (tokT a stops1 y.p).1}, y.n⟩ : St) else none) = some y' := h
  split at he
  ·rename_i hk
   show (if (tokT (a ++ t) stops1 y.p).2 = 0 then some (⟨stopN (a ++ t) stops1 y.p, {y.h with p := (tokT (a ++ t) stops1 y.p).1}, y.n⟩ : St) else none) = some y'
   rw [tokT_left ht semi1.1 h0 hp hk, stopN_left ht semi1.1 h0 hp hk, if_pos hk]
   exact he
  ·exact absurd he (by simp)
 ·obtain ⟨x, hx, rfl⟩ := Option.map_eq_some_iff.mp (show (fillIf y.h.p a y.p y.h 1).map _ = _ from h)
  show (fillIf y.h.p (a ++ t) y.p y.h 1).map _ = _
  rw [fillIf_left ht h0 hp hx]; rfl
 ·show (placesF (a ++ t) y.p y.h).map _ = _
  rw [placesF_left ht h0 hp]; exact h
 ·show (tailF (a ++ t) y.p y.h).map _ = _
  rw [tailF_left ht h0 hp]; exact h
 ·obtain ⟨x, hx, rfl⟩ := Option.map_eq_some_iff.mp (show (fillF a y.p y.h 2).map _ = _ from h)
  show (fillF (a ++ t) y.p y.h 2).map _ = _
  rw [fillF_left ht h0 hp hx]; rfl
 ·have he : (if (tokT a stops2 y.p).2 = 0 then some (⟨stopN a stops2 y.p, {y.h with s := (tokT a stops2 y.p).1}, y.n⟩ : St) else none) = some y' := h
  split at he
  ·rename_i hk
   show (if (tokT (a ++ t) stops2 y.p).2 = 0 then some (⟨stopN (a ++ t) stops2 y.p, {y.h with s := (tokT (a ++ t) stops2 y.p).1}, y.n⟩ : St) else none) = some y'
   rw [tokT_left ht semi1.2 h0 hp hk, stopN_left ht semi1.2 h0 hp hk, if_pos hk]
   exact he
  ·exact absurd he (by simp)
 ·obtain ⟨x, hx, rfl⟩ := Option.map_eq_some_iff.mp (show (fillIf y.h.s a y.p y.h 3).map _ = _ from h)
  show (fillIf y.h.s (a ++ t) y.p y.h 3).map _ = _
  rw [fillIf_left ht h0 hp hx]; rfl
theorem step_right (u b : ByteArray) {i : Nat} (hi : i ≤ 7) (y : St) (h0 : 0 ≤ y.p) (hp : y.p ≤ b.size) : stepS (u ++ b) i (shS u.size y) = (stepS b i y).map (shS u.size) := by
 have hc : i = 0 ∨ i = 1 ∨ i = 2 ∨ i = 3 ∨ i = 4 ∨ i = 5 ∨ i = 6 ∨ i = 7 := by omega
 rcases hc with rfl | rfl | rfl | rfl | rfl | rfl | rfl | rfl
 ·show (fillF (u ++ b) (u.size + y.p) y.h 0).map _ = ((fillF b y.p y.h 0).map _).map _
  rw [fillF_right u b h0]
  cases fillF b y.p y.h 0 <;> rfl
 ·show (if (tokT (u ++ b) stops1 (u.size + y.p)).2 = 0 then some (⟨stopN (u ++ b) stops1 (u.size + y.p), {y.h with p := (tokT (u ++ b) stops1 (u.size + y.p)).1}, y.n⟩ : St) else none) = (if (tokT b stops1 y.p).2 = 0 then some (⟨stopN b stops1 y.p, {y.h with p := (tokT b stops1 y.p).1}, y.n⟩ : St) else none).map _
  rw [tokT_right u b _ h0 hp, stopN_right u b _ h0]
  split <;> rfl
 ·show (fillIf y.h.p (u ++ b) (u.size + y.p) y.h 1).map _ = ((fillIf y.h.p b y.p y.h 1).map _).map _
  rw [fillIf_right u b _ h0]
  cases fillIf y.h.p b y.p y.h 1 <;> rfl
 ·show (placesF (u ++ b) (u.size + y.p) y.h).map _ = ((placesF b y.p y.h).map _).map _
  rw [placesF_right u b h0]
  cases placesF b y.p y.h with
  | none => rfl
  | some x =>
   show some (⟨u.size + x.1, x.2, u.size + x.1 - (u.size + y.p)⟩ : St) = some (⟨u.size + x.1, x.2, x.1 - y.p⟩ : St)
   rw [show (u.size : Int) + x.1 - (u.size + y.p) = x.1 - y.p by omega]
 ·show (tailF (u ++ b) (u.size + y.p) y.h).map _ = ((tailF b y.p y.h).map _).map _
  rw [tailF_right u b h0 hp]
  cases tailF b y.p y.h with
  | none => rfl
  | some x =>
   show some (⟨u.size + x.1, x.2, y.n + (u.size + x.1 - (u.size + y.p))⟩ : St) = some (⟨u.size + x.1, x.2, y.n + (x.1 - y.p)⟩ : St)
   rw [show (u.size : Int) + x.1 - (u.size + y.p) = x.1 - y.p by omega]
 ·show (fillF (u ++ b) (u.size + y.p) y.h 2).map _ = ((fillF b y.p y.h 2).map _).map _
  rw [fillF_right u b h0]
  cases fillF b y.p y.h 2 <;> rfl
 ·show (if (tokT (u ++ b) stops2 (u.size + y.p)).2 = 0 then some (⟨stopN (u ++ b) stops2 (u.size + y.p), {y.h with s := (tokT (u ++ b) stops2 (u.size + y.p)).1}, y.n⟩ : St) else none) = (if (tokT b stops2 y.p).2 = 0 then some (⟨stopN b stops2 y.p, {y.h with s := (tokT b stops2 y.p).1}, y.n⟩ : St) else none).map _
  rw [tokT_right u b _ h0 hp, stopN_right u b _ h0]
  split <;> rfl
 ·show (fillIf y.h.s (u ++ b) (u.size + y.p) y.h 3).map _ = ((fillIf y.h.s b y.p y.h 3).map _).map _
  rw [fillIf_right u b _ h0]
  cases fillIf y.h.s b y.p y.h 3 <;> rfl
theorem step_range {s : ByteArray} {i : Nat} (hi : i ≤ 7) {y y' : St} (h0 : 0 ≤ y.p) (hp : y.p ≤ s.size) (h : stepS s i y = some y') : 0 ≤ y'.p ∧ y'.p ≤ s.size := by
 have hc : i = 0 ∨ i = 1 ∨ i = 2 ∨ i = 3 ∨ i = 4 ∨ i = 5 ∨ i = 6 ∨ i = 7 := by omega
 rcases hc with rfl | rfl | rfl | rfl | rfl | rfl | rfl | rfl
 ·obtain ⟨x, hx, rfl⟩ := Option.map_eq_some_iff.mp (show (fillF s y.p y.h 0).map _ = _ from h)
  have r := fillF_range h0 hp hx
  exact ⟨by show 0 ≤ x.1; omega, r.2.1⟩
 ·have he : (if (tokT s stops1 y.p).2 = 0 then some (⟨stopN s stops1 y.p, {y.h with p := (tokT s stops1 y.p).1}, y.n⟩ : St) else none) = some y' := h
  split at he
  ·obtain rfl := Option.some.inj he
   have r := stop_range (st := stops1) h0 hp
   exact ⟨by show 0 ≤ stopN s stops1 y.p; omega, r.2⟩
  ·exact absurd he (by simp)
 ·obtain ⟨x, hx, rfl⟩ := Option.map_eq_some_iff.mp (show (fillIf y.h.p s y.p y.h 1).map _ = _ from h)
  have r := fillIf_range h0 hp hx
  exact ⟨by show 0 ≤ x.1; omega, r.2.1⟩
 ·obtain ⟨x, hx, rfl⟩ := Option.map_eq_some_iff.mp (show (placesF s y.p y.h).map _ = _ from h)
  have r := placesF_range h0 hp hx
  exact ⟨by show 0 ≤ x.1; omega, r.2.1⟩
 ·obtain ⟨x, hx, rfl⟩ := Option.map_eq_some_iff.mp (show (tailF s y.p y.h).map _ = _ from h)
  have r := tailF_range h0 hp hx
  exact ⟨by show 0 ≤ x.1; omega, r.2.1⟩
 ·obtain ⟨x, hx, rfl⟩ := Option.map_eq_some_iff.mp (show (fillF s y.p y.h 2).map _ = _ from h)
  have r := fillF_range h0 hp hx
  exact ⟨by show 0 ≤ x.1; omega, r.2.1⟩
 ·have he : (if (tokT s stops2 y.p).2 = 0 then some (⟨stopN s stops2 y.p, {y.h with s := (tokT s stops2 y.p).1}, y.n⟩ : St) else none) = some y' := h
  split at he
  ·obtain rfl := Option.some.inj he
   have r := stop_range (st := stops2) h0 hp
   exact ⟨by show 0 ≤ stopN s stops2 y.p; omega, r.2⟩
  ·exact absurd he (by simp)
 ·obtain ⟨x, hx, rfl⟩ := Option.map_eq_some_iff.mp (show (fillIf y.h.s s y.p y.h 3).map _ = _ from h)
  have r := fillIf_range h0 hp hx
  exact ⟨by show 0 ≤ x.1; omega, r.2.1⟩
theorem run_left {a t : ByteArray} (ht : Semi t) : ∀ (k i : Nat) (y y' : St), i + k = 8 → 0 ≤ y.p → y.p ≤ a.size → runS a (List.range' i k) y = some y' → runS (a ++ t) (List.range' i k) y = some y'
 | 0, i, y, y', _, _, _, h => h
 | k + 1, i, y, y', hi, h0, hp, h => by
  obtain ⟨u, hu, h2⟩ := Option.bind_eq_some_iff.mp (show (stepS a i y).bind (runS a (List.range' (i + 1) k)) = some y' from h)
  have r := step_range (by omega) h0 hp hu
  show (stepS (a ++ t) i y).bind (runS (a ++ t) (List.range' (i + 1) k)) = some y'
  rw [step_left ht (by omega) h0 hp hu]
  exact run_left ht k (i + 1) u y' (by omega) r.1 r.2 h2
theorem run_right (u b : ByteArray) : ∀ (k i : Nat) (y : St), i + k = 8 → 0 ≤ y.p → y.p ≤ b.size → runS (u ++ b) (List.range' i k) (shS u.size y) = (runS b (List.range' i k) y).map (shS u.size)
 | 0, i, y, _, _, _ => rfl
 | k + 1, i, y, hi, h0, hp => by
  show (stepS (u ++ b) i (shS u.size y)).bind (runS (u ++ b) (List.range' (i + 1) k)) = ((stepS b i y).bind (runS b (List.range' (i + 1) k))).map (shS u.size)
  rw [step_right u b (by omega) y h0 hp]
  cases hu : stepS b i y with
  | none => rfl
  | some z =>
   have r := step_range (by omega) h0 hp hu
   show runS (u ++ b) (List.range' (i + 1) k) (shS u.size z) = (runS b (List.range' (i + 1) k) z).map (shS u.size)
   exact run_right u b k (i + 1) z (by omega) r.1 r.2
theorem scan_left {a t : ByteArray} (ht : Semi t) {p : Int} (h0 : 0 ≤ p) (hp : p ≤ a.size) {x : Int × Sb} (h : scanA a p = some x) : scanA (a ++ t) p = some x := by
 obtain ⟨y, hy, rfl⟩ := Option.map_eq_some_iff.mp (show (runS a (stepsFrom 0) ⟨p, zeroSb2, 0⟩).map _ = _ from h)
 show (runS (a ++ t) (stepsFrom 0) ⟨p, zeroSb2, 0⟩).map _ = _
 rw [show runS (a ++ t) (stepsFrom 0) ⟨p, zeroSb2, 0⟩ = some y from run_left ht 8 0 _ y rfl h0 hp hy]
 rfl
theorem scan_right (u b : ByteArray) {p : Int} (h0 : 0 ≤ p) (hp : p ≤ b.size) : scanA (u ++ b) (u.size + p) = (scanA b p).map (fun x => ((u.size : Int) + x.1, x.2)) := by
 show (runS (u ++ b) (stepsFrom 0) (shS u.size ⟨p, zeroSb2, 0⟩)).map _ = ((runS b (stepsFrom 0) ⟨p, zeroSb2, 0⟩).map _).map _
 rw [show runS (u ++ b) (stepsFrom 0) (shS u.size ⟨p, zeroSb2, 0⟩) = _ from run_right u b 8 0 ⟨p, zeroSb2, 0⟩ rfl h0 hp]
 show ((runS b (stepsFrom 0) ⟨p, zeroSb2, 0⟩).map (shS u.size)).map _ = _
 cases runS b (stepsFrom 0) ⟨p, zeroSb2, 0⟩ with
 | none => rfl
 | some y => rfl
theorem scan_range {s : ByteArray} {p : Int} (h0 : 0 ≤ p) (hp : p ≤ s.size) {x : Int × Sb} (h : scanA s p = some x) : 0 ≤ x.1 ∧ x.1 ≤ s.size := by
 obtain ⟨y, hy, rfl⟩ := Option.map_eq_some_iff.mp (show (runS s (stepsFrom 0) ⟨p, zeroSb2, 0⟩).map _ = _ from h)
 have go : ∀ (k i : Nat) (z z' : St), i + k = 8 → 0 ≤ z.p → z.p ≤ s.size → runS s (List.range' i k) z = some z' → 0 ≤ z'.p ∧ z'.p ≤ s.size := by
  intro k
  induction k with
  | zero => intro i z z' _ a b c; obtain rfl := Option.some.inj c; exact ⟨a, b⟩
  | succ k ih =>
   intro i z z' hi a b c
   obtain ⟨u, hu, h2⟩ := Option.bind_eq_some_iff.mp (show (stepS s i z).bind (runS s (List.range' (i + 1) k)) = some z' from c)
   have r := step_range (by omega) a b hu
   exact ih (i + 1) u z' (by omega) r.1 r.2 h2
 exact go 8 0 _ y rfl h0 hp hy
def clean : List UInt8 → Bool → Option Bool
 | [], q => some q
 | b :: r, q => if b = 39 then clean r (!q) else if (!q && decide (b ∈ LETTERS)) = true then none else clean r q
theorem clean_app : ∀ (a b : List UInt8) (q : Bool), clean (a ++ b) q = (clean a q).bind (clean b)
 | [], b, q => rfl
 | x :: a, b, q => by
  show (if x = 39 then clean (a ++ b) (!q) else if (!q && decide (x ∈ LETTERS)) = true then none else clean (a ++ b) q) = (if x = 39 then clean a (!q) else if (!q && decide (x ∈ LETTERS)) = true then none else clean a q).bind (clean b)
  rw [clean_app a b, clean_app a b]
  (repeat' split) <;> rfl
theorem clean_none : ∀ (l : List UInt8) (q : Bool), (∀ b ∈ l, b ≠ 39) → (q = true ∨ ∀ b ∈ l, b ∉ LETTERS) → clean l q = some q
 | [], q, _, _ => rfl
 | b :: r, q, h, hl => by
  have hr := clean_none r q (fun x hx => h x (by simp [hx])) (hl.imp id (fun hl x hx => hl x (by simp [hx])))
  unfold clean
  rw [if_neg (h b (by simp)), hr]
  split
  ·rename_i hc
   simp only [Bool.and_eq_true, decide_eq_true_eq] at hc
   rcases hl with rfl | hl
   ·exact absurd hc.1 (by decide)
   ·exact absurd hc.2 (hl b (by simp))
  ·rfl
theorem contains_one (b : UInt8) : Lib.contains LETTERS [b] = decide (b ∈ LETTERS) := by
 have h : ∀ n : Fin 256, Lib.contains LETTERS [UInt8.ofNat n] = decide (UInt8.ofNat n ∈ LETTERS) := by decide +kernel
 have := h ⟨b.toNat, b.toNat_lt⟩
 simpa only [UInt8.ofNat_toNat] using this
theorem high_letters {b : UInt8} (h : 128 ≤ b.toNat) : b ∉ LETTERS := by
 intro hm
 have : ∀ x ∈ LETTERS, x.toNat < 128 := by decide
 have := this b hm
 omega
theorem rune_letters {c : ByteArray} (h : IsRune c) (hl : letB c = false) : ∀ b ∈ c.data.toList, b ∉ LETTERS := by
 rcases rune_bytes h with ⟨b, e, hb⟩ | ⟨b, r, e, hb⟩
 ·intro x hx
  rw [e, List.mem_singleton] at hx
  subst hx
  have hc : Lib.contains LETTERS c.data.toList = false := hl
  rw [e, contains_one] at hc
  exact of_decide_eq_false hc
 ·intro x hx
  rw [e] at hx
  exact high_letters (hb x hx)
theorem rune_clean {c : ByteArray} {q : Bool} (h : IsRune c) (hq : ¬ quoteC c) (hl : q = true ∨ letB c = false) : clean c.data.toList q = some q :=
 clean_none _ q (rune_no39 h hq) (hl.imp id (fun hl => rune_letters h hl))
theorem Qc_data : Qc.data.toList = [39] := rfl
theorem dbl_clean : ∀ (raw : List ByteArray) (q : Bool), (∀ c ∈ raw, IsRune c) → (q = true ∨ ∀ c ∈ raw, quoteC c) → clean (joinB (dbl raw)).data.toList q = some q
 | [], q, _, _ => rfl
 | c :: cs, q, hr, hq => by
  have ih := dbl_clean cs q (fun x hx => hr x (by simp [hx])) (hq.imp id (fun h x hx => h x (by simp [hx])))
  unfold dbl
  by_cases h : quoteC c
  ·rw [if_pos h, join_cons, join_cons, clean_app, Qc_data]
   show clean (joinB (dbl cs)).data.toList (!(!q)) = some q
   rw [Bool.not_not]
   exact ih
  ·rw [if_neg h, join_cons, clean_app, rune_clean (hr c (by simp)) h (.inl (by
    rcases hq with hq | hq
    ·exact hq
    ·exact absurd (hq c (by simp)) h))]
   exact ih
theorem wrap_clean (raw : List ByteArray) (bare : Bool) (hr : ∀ c ∈ raw, IsRune c) (h : Rows_ raw bare) : clean (joinB (wrapR raw bare)).data.toList false = some false := by
 unfold wrapR
 cases bare with
 | true =>
  rw [if_pos rfl]
  exact dbl_clean raw false hr (.inr (by unfold Rows_ at h; simpa using h))
 | false =>
  rw [if_neg (by decide), join_cons, clean_app, Qc_data]
  show clean (joinB (dbl raw ++ [Qc])).data.toList true = some false
  rw [join_app, ByteArray.data_append, Array.toList_append, clean_app, dbl_clean raw true hr (.inl rfl), join_one]
  rfl
theorem quote_clean : ∀ (cs raw : List ByteArray) (bare : Bool), (∀ c ∈ cs, IsRune c) → (∀ c ∈ raw, IsRune c) → Rows_ raw bare → clean (joinB (quoteR cs raw bare)).data.toList false = some false
 | [], raw, bare, hc, hr, h => wrap_clean raw bare hr h
 | c :: cs, raw, bare, hc, hr, h => by
  have hcs : ∀ c ∈ cs, IsRune c := fun x hx => hc x (by simp [hx])
  have hr2 : ∀ x ∈ raw ++ [c], IsRune x := fun x hx => by
   rcases List.mem_append.mp hx with hx | hx
   ·exact hr x hx
   ·rw [List.mem_singleton] at hx; subst hx; exact hc x (by simp)
  unfold quoteR
  by_cases hq : quoteC c
  ·rw [if_pos hq]
   refine quote_clean cs _ bare hcs hr2 ?_
   exact aP53
  ·rw [if_neg hq]
   by_cases hk : (decide (0 < kindS c) || letB c) = true
   ·rw [if_pos hk]
    refine quote_clean cs _ false hcs hr2 ?_
    unfold Rows_
    simp only [Bool.false_eq_true, if_false]
    exact ⟨c, by simp, hq⟩
   ·rw [if_neg hk]
    have hl : letB c = false := by
     cases hb : letB c with
     | false => rfl
     | true => exact absurd (by rw [hb, Bool.or_true]) hk
    rw [join_app, ByteArray.data_append, Array.toList_append, clean_app, wrap_clean raw bare hr h, join_cons]
    show clean (c.data.toList ++ (joinB (quoteR cs [] true)).data.toList) false = some false
    rw [clean_app, rune_clean (hc c (by simp)) hq (.inr hl)]
    refine quote_clean cs [] true hcs (fun x hx => by cases hx) ?_
    unfold Rows_
    simp
theorem reps_clean (n : Nat) : clean (joinB (List.replicate n currC)).data.toList false = some false := by
 induction n with
 | zero => rfl
 | succ n ih =>
  rw [List.replicate_succ, join_cons, clean_app, show clean currC.data.toList false = some false by decide +kernel]
  exact ih
theorem sign_clean (k : Int) : clean (signC k).data.toList false = some false := by
 unfold signC
 (repeat' split) <;> decide +kernel
theorem tok_clean (t : S53) : clean (joinB (tokR t)).data.toList false = some false := by
 unfold tokR
 by_cases h0 : t.f0 = 0
 ·rw [if_pos h0]
  exact quote_clean _ [] true (runesAt_runes t.f2 t.f2.size 0 (Int.le_refl _) (by omega) (by omega)) (fun x hx => by cases hx) (by unfold Rows_; simp)
 ·rw [if_neg h0]
  by_cases h5 : t.f0 = 5
  ·rw [if_pos h5]; exact reps_clean _
  ·rw [if_neg h5, join_one]; exact sign_clean _
theorem all_clean : ∀ l : List S53, clean (joinB (allR l)).data.toList false = some false
 | [] => rfl
 | t :: r => by
  rw [all_cons, join_app, ByteArray.data_append, Array.toList_append, clean_app, tok_clean]
  exact all_clean r
theorem print_clean (l : List S53) : clean (printT l).1.data.toList false = some false := by
 rw [printT_eq]
 unfold A.printT
 split
 ·exact all_clean l
 ·rfl
theorem parse_print (l : List S53) (h : checkS l = 0) : parseT (printT l).1 = (l, 0) := by
 rw [checkS_eq] at h
 rw [printT_eq, parseT_eq]
 unfold A.printT
 rw [if_pos h]
 exact parse_all l h
theorem print_nil : (printT []).1 = ⟨#[]⟩ := by
 rw [printT_eq]
 decide +kernel
theorem print_ne {l : List S53} (h : checkS l = 0) (hn : l ≠ []) : (printT l).1.data.toList ≠ [] := by
 intro e
 have h1 := parse_print l h
 have h2 := parse_print [] check_nil
 rw [print_nil] at h2
 rw [bytes_of _ _ e] at h1
 have : (l, (0 : Int)) = ([], 0) := h1.symm.trans h2
 exact hn (Prod.mk.inj this).1
structure Dr (s : ByteArray) (p : Int) (l : List UInt8) : Prop where
 p0 : 0 ≤ p
 p1 : p ≤ s.size
 eq : s.data.toList.drop p.toNat = l
namespace Dr
variable {s : ByteArray} {p : Int} {l a r : List UInt8} {b : UInt8}
theorem len (h : Dr s p l) : (l.length : Int) = s.size - p := by
 have hl : s.data.toList.length = s.size := rfl
 have := h.p0
 have := h.p1
 rw [← h.eq, List.length_drop]
 omega
theorem app (h : Dr s p (a ++ r)) : Dr s (p + a.length) r := by
 have hl := h.len
 rw [List.length_append] at hl
 have := h.p0
 refine ⟨by omega, by omega, ?_⟩
 rw [show (p + a.length).toNat = p.toNat + a.length by omega, ← List.drop_drop, h.eq, List.drop_left]
theorem next (h : Dr s p (b :: r)) : Dr s (p + 1) r := app (a := [b]) h
theorem lt (h : Dr s p (b :: r)) : p < s.size := by
 have := h.len
 rw [List.length_cons] at this
 omega
theorem bt (h : Dr s p (b :: r)) : bt s p = b.toNat := by
 have h0 := h.p0
 have hl : s.data.toList.length = s.size := rfl
 have hp : p.toNat < s.data.toList.length := by have := h.lt; omega
 have h1 := bt_list s p.toNat hp
 rw [show ((p.toNat : Nat) : Int) = p by omega] at h1
 have h2 := h.eq
 rw [List.drop_eq_getElem_cons hp] at h2
 rw [h1, (List.cons.inj h2).1]
theorem at_ (h : Dr s p (b :: r)) (c : UInt8) : bAt s p c.toNat = decide (b = c) := by
 unfold bAt
 rw [dTr h.lt, Bool.true_and, h.bt]
 by_cases e : b = c
 ·subst e; simp
 ·rw [dFa e, beq_eq_false_iff_ne]
  intro e2
  exact e (UInt8.toNat_inj.mp (by omega))
theorem at_nil (h : Dr s p []) (c : Int) : bAt s p c = false := by
 have := h.len
 simp only [List.length_nil] at this
 unfold bAt
 rw [dFa (by omega)]
 rfl
theorem at_no (h : Dr s p l) (c : UInt8) (hn : ∀ b r, l = b :: r → b ≠ c) : bAt s p c.toNat = false := by
 cases l with
 | nil => exact h.at_nil _
 | cons b r => rw [h.at_ c, dFa (hn b r rfl)]
theorem ext (h : Dr s p (a ++ r)) : s.extract p.toNat (p + a.length).toNat = ⟨a.toArray⟩ := by
 apply bytes_of
 have := h.p0
 rw [ByteArray.data_extract, Array.toList_extract, List.extract_eq_take_drop, h.eq, show (p + a.length).toNat - p.toNat = a.length by omega, List.take_left]
theorem start (s : ByteArray) : Dr s 0 s.data.toList := ⟨Int.le_refl _, by omega, rfl⟩
end Dr
theorem runN_reps {s : ByteArray} (b : UInt8) : ∀ (k : Nat) (p : Int) (r : List UInt8), Dr s p (List.replicate k b ++ r) → (∀ c q, r = c :: q → c ≠ b) → runN s b.toNat p = k
 | 0, p, r, h, hr => by
  rw [runN_step, Dr.at_no h b hr]
  rfl
 | k + 1, p, r, h, hr => by
  rw [List.replicate_succ, List.cons_append] at h
  rw [runN_step, h.at_ b, dTr rfl, if_pos rfl, runN_reps b k (p + 1) r h.next hr]
  omega
def PL (s : ByteArray) (p : Int) (G : List Int) (z : Int) : Option (Int × List Int × Int) := plF s ((s.size : Int) - p).toNat p G z
theorem last_app (P : List Int) (g : Int) : lastG (P ++ [g]) = g := by
 unfold lastG rd
 rw [List.length_append, show ((P.length + [g].length : Nat) : Int) - 1 = (P.length : Int) by simp, Int.toNat_natCast]
 simp [List.getD]
theorem bump_app (P : List Int) (g : Int) : bump (P ++ [g]) = P ++ [g + 1] := by
 unfold bump
 rw [last_app, List.length_append, show P.length + [g].length - 1 = P.length by simp]
 simp [List.set_append]
theorem PL_step {s : ByteArray} {p : Int} {b : UInt8} {r : List UInt8} (h : Dr s p (b :: r)) (G : List Int) (z : Int) : PL s p G z = (if b = 35 then (if 0 < z then none else PL s (p + 1) (bump G) z) else if b = 48 then PL s (p + 1) (bump G) (z + 1) else if b = 44 then (if lastG G = 0 then none else PL s (p + 1) (G ++ [0]) z) else some (p, G, z)) := by
 have hlt := h.lt
 unfold PL
 rw [show ((s.size : Int) - p).toNat = ((s.size : Int) - (p + 1)).toNat + 1 by omega]
 conv => lhs; unfold plF
 rw [h.bt]
 have e : ∀ c : UInt8, ((b.toNat : Int) = (c.toNat : Int)) ↔ b = c := fun c => ⟨fun e => UInt8.toNat_inj.mp (by omega), fun e => by rw [e]⟩
 have e35 := e 35
 have e48 := e 48
 have e44 := e 44
 simp only [show ((35 : UInt8).toNat : Int) = 35 from rfl, show ((48 : UInt8).toNat : Int) = 48 from rfl, show ((44 : UInt8).toNat : Int) = 44 from rfl] at e35 e48 e44
 simp only [e35, e48, e44]
theorem PL_end {s : ByteArray} {p : Int} {r : List UInt8} (h : Dr s p r) (hr : ∀ c q, r = c :: q → c ≠ 35 ∧ c ≠ 48 ∧ c ≠ 44) (G : List Int) (z : Int) : PL s p G z = some (p, G, z) := by
 cases r with
 | nil =>
  have := h.len
  simp only [List.length_nil] at this
  unfold PL
  rw [show ((s.size : Int) - p).toNat = 0 by omega]
  rfl
 | cons c q =>
  obtain ⟨h1, h2, h3⟩ := hr c q rfl
  rw [PL_step h, if_neg h1, if_neg h2, if_neg h3]
theorem PL_hash {s : ByteArray} (P : List Int) : ∀ (k : Nat) (p g : Int) (r : List UInt8), Dr s p (List.replicate k 35 ++ r) → PL s p (P ++ [g]) 0 = PL s (p + k) (P ++ [g + k]) 0
 | 0, p, g, r, h => by rw [show p + ((0 : Nat) : Int) = p by omega, show g + ((0 : Nat) : Int) = g by omega]
 | k + 1, p, g, r, h => by
  rw [List.replicate_succ, List.cons_append] at h
  rw [PL_step h, if_pos rfl, if_neg (by omega), bump_app, PL_hash P k (p + 1) (g + 1) r h.next, show p + 1 + (k : Int) = p + ((k + 1 : Nat) : Int) by omega, show g + 1 + (k : Int) = g + ((k + 1 : Nat) : Int) by omega]
theorem PL_zero {s : ByteArray} (P : List Int) : ∀ (k : Nat) (p g z : Int) (r : List UInt8), Dr s p (List.replicate k 48 ++ r) → PL s p (P ++ [g]) z = PL s (p + k) (P ++ [g + k]) (z + k)
 | 0, p, g, z, r, h => by rw [show p + ((0 : Nat) : Int) = p by omega, show g + ((0 : Nat) : Int) = g by omega, show z + ((0 : Nat) : Int) = z by omega]
 | k + 1, p, g, z, r, h => by
  rw [List.replicate_succ, List.cons_append] at h
  rw [PL_step h, if_neg (by decide), if_pos rfl, bump_app, PL_zero P k (p + 1) (g + 1) (z + 1) r h.next, show p + 1 + (k : Int) = p + ((k + 1 : Nat) : Int) by omega, show g + 1 + (k : Int) = g + ((k + 1 : Nat) : Int) by omega, show z + 1 + (k : Int) = z + ((k + 1 : Nat) : Int) by omega]
theorem PL_raw {s : ByteArray} (P : List Int) {im hi lo p g : Int} {r : List UInt8} (h0 : 0 ≤ im) (h1 : 0 ≤ lo) (h2 : lo ≤ hi) (h : Dr s p (rawD im hi lo ++ r)) : PL s p (P ++ [g]) (mx 0 (im - hi)) = PL s (p + (hi - lo)) (P ++ [g + (hi - lo)]) (mx 0 (im - lo)) ∧ Dr s (p + (hi - lo)) r := by
 have hl := raw_len im hi lo h0 h1 h2
 refine ⟨?_, by have := h.app; rw [hl] at this; exact this⟩
 unfold rawD at h
 rw [List.append_assoc] at h
 by_cases c : im ≤ hi
 ·have e0 : mx 0 (im - hi) = 0 := aP125
  rw [e0, PL_hash P _ p g _ h, ]
  have h' := h.app
  rw [List.length_replicate] at h'
  rw [PL_zero P _ _ _ 0 _ h']
  have q1 : p + ((hi - mx lo im).toNat : Int) + ((mn hi im - lo).toNat : Int) = p + (hi - lo) := by unfold mx mn; (repeat' split) <;> omega
  have q2 : g + ((hi - mx lo im).toNat : Int) + ((mn hi im - lo).toNat : Int) = g + (hi - lo) := by omega
  have q3 : (0 : Int) + ((mn hi im - lo).toNat : Int) = mx 0 (im - lo) := by unfold mx mn; (repeat' split) <;> omega
  rw [q1, q2, q3]
 ·have e1 : (hi - mx lo im).toNat = 0 := aP125
  rw [e1, List.replicate_zero, List.nil_append] at h
  rw [PL_zero P _ p g _ _ h]
  have q1 : p + ((mn hi im - lo).toNat : Int) = p + (hi - lo) := by unfold mn; (repeat' split) <;> omega
  have q2 : g + ((mn hi im - lo).toNat : Int) = g + (hi - lo) := by omega
  have q3 : mx 0 (im - hi) + ((mn hi im - lo).toNat : Int) = mx 0 (im - lo) := by unfold mx mn; (repeat' split) <;> omega
  rw [q1, q2, q3]
theorem PL_comma {s : ByteArray} {P : List Int} {g z p : Int} {r : List UInt8} (hg : g ≠ 0) (h : Dr s p ([44] ++ r)) : PL s p (P ++ [g]) z = PL s (p + 1) (P ++ [g] ++ [0]) z ∧ Dr s (p + 1) r := by
 have h' : Dr s p (44 :: r) := h
 refine ⟨?_, h'.next⟩
 rw [PL_step h', if_neg (by decide), if_neg (by decide), if_pos rfl, last_app, if_neg hg]
def RestOk (r : List UInt8) : Prop := ∃ A B, r = A ++ B ∧ clean A false = some false ∧ (B = [] ∨ ∃ q, B = 42 :: q ∨ B = 59 :: q)
theorem clean_head {b : UInt8} {r : List UInt8} (h : clean (b :: r) false = some false) (hb : b ≠ 39) : b ∉ LETTERS ∧ clean r false = some false := by
 unfold clean at h
 rw [if_neg hb] at h
 by_cases hm : b ∈ LETTERS
 ·rw [dTr hm] at h; exact absurd h (by simp)
 ·rw [dFa hm] at h; exact ⟨hm, h⟩
theorem rest_head {r : List UInt8} (h : RestOk r) : ∀ c q, r = c :: q → c ≠ 35 ∧ c ≠ 48 ∧ c ≠ 44 ∧ c ≠ 46 := by
 rintro c q e
 obtain ⟨A, B, hr, hc, hB⟩ := h
 rw [e] at hr
 cases A with
 | nil =>
  rw [List.nil_append] at hr
  rcases hB with rfl | ⟨q', rfl | rfl⟩
  ·exact absurd hr (by simp)
  ·obtain ⟨rfl, _⟩ := List.cons.inj hr; decide
  ·obtain ⟨rfl, _⟩ := List.cons.inj hr; decide
 | cons b A =>
  obtain ⟨rfl, _⟩ := List.cons.inj hr
  by_cases hb : c = 39
  ·subst hb; decide
  ·have hm := (clean_head hc hb).1
   refine ⟨?_, ?_, ?_, ?_⟩ <;> (rintro rfl; exact hm (by decide))
theorem rest_tail {c : UInt8} {q : List UInt8} (h : RestOk (c :: q)) (h1 : c ≠ 39) (h2 : c ≠ 42) (h3 : c ≠ 59) : RestOk q := by
 obtain ⟨A, B, hr, hc, hB⟩ := h
 cases A with
 | nil =>
  rw [List.nil_append] at hr
  rcases hB with rfl | ⟨q', rfl | rfl⟩
  ·exact absurd hr (by simp)
  ·exact absurd (List.cons.inj hr).1 h2
  ·exact absurd (List.cons.inj hr).1 h3
 | cons b A =>
  obtain ⟨rfl, e⟩ := List.cons.inj hr
  exact ⟨A, B, e, (clean_head hc h1).2, hB⟩
theorem places_back {s : ByteArray} {x h : Sb} {n p : Int} {r : List UInt8} (hf : Fine x) (hn : leastS x ≤ n) (hd : Dr s p (placesL x n ++ r)) (hr : ∀ c q, r = c :: q → c ≠ 35 ∧ c ≠ 48 ∧ c ≠ 44) (hp : h.pr = 0) (hs : h.se = 0) :
  placesF s p h = some (p + (placesL x n).length, {h with im := x.im, pr := x.pr, se := x.se}) ∧ Dr s (p + (placesL x n).length) r := by
 obtain ⟨i0, i1, _, _, _, _, p0, p1, s0, s1, _, _, hps⟩ := hf
 have hend := hd.app
 refine ⟨?_, hend⟩
 have hl1 : 1 ≤ n := aP137
 have hl2 : x.im ≤ n := aP137
 have z0 : mx 0 (x.im - n) = 0 := aP125
 have zi : mx 0 (x.im - 0) = x.im := aP125
 have hgo : ∀ (e : Int) (G : List Int), PL s p ([] ++ [0]) (mx 0 (x.im - n)) = PL s e G (mx 0 (x.im - 0)) → Dr s e r → placesF s p h = (groupF G x.im h).map (fun y => (e, y)) := by
  intro e G h1 h2
  rw [z0, zi, PL_end h2 hr] at h1
  show (PL s p [0] 0).bind _ = _
  rw [show PL s p [0] 0 = _ from h1]
  rfl
 have eend : ∀ e : Int, Dr s e r → e = p + (placesL x n).length := fun e he => by have a := he.len; have b := hend.len; omega
 have hd0 := hd
 unfold placesL at hd
 by_cases hpr : 0 < x.pr
 ·have hn3 : x.pr + x.se + 1 ≤ n := aP138
  rw [if_pos hpr] at hd
  by_cases hse : 0 < x.se
  ·rw [if_pos hse] at hd
   simp only [List.append_assoc] at hd
   obtain ⟨e1, d1⟩ := PL_raw [] (g := 0) i0 (by omega) (by omega) hd
   obtain ⟨e2, d2⟩ := PL_comma (P := []) (z := mx 0 (x.im - (x.pr + x.se))) (show (0 : Int) + (n - (x.pr + x.se)) ≠ 0 by omega) d1
   obtain ⟨e3, d3⟩ := PL_raw ([] ++ [0 + (n - (x.pr + x.se))]) (g := 0) i0 p0 (by omega) d2
   obtain ⟨e4, d4⟩ := PL_comma (P := [] ++ [0 + (n - (x.pr + x.se))]) (z := mx 0 (x.im - x.pr)) (show (0 : Int) + (x.pr + x.se - x.pr) ≠ 0 by omega) d3
   obtain ⟨e5, d5⟩ := PL_raw ([] ++ [0 + (n - (x.pr + x.se))] ++ [0 + (x.pr + x.se - x.pr)]) (g := 0) i0 (Int.le_refl 0) p0 d4
   rw [hgo _ _ (e1.trans (e2.trans (e3.trans (e4.trans e5)))) d5]
   unfold groupF
   rw [last_app]
   have hc : (decide (3 < ([] ++ [0 + (n - (x.pr + x.se))] ++ [0 + (x.pr + x.se - x.pr)] ++ [0 + (x.pr - 0)] : List Int).length) || (0 + (x.pr - 0) == 0)) = false := by
    rw [beF (by omega)]; rfl
   rw [hc, if_neg (by decide)]
   show some (_, _) = some (_, _)
   rw [eend _ d5, show (0 : Int) + (x.pr - 0) = x.pr by omega]
   have e6 : rd ([] ++ [0 + (n - (x.pr + x.se))] ++ [0 + (x.pr + x.se - x.pr)] ++ [x.pr] : List Int) 1 = x.se := by
    show (0 : Int) + (x.pr + x.se - x.pr) = x.se
    omega
   rw [e6]
   rfl
  ·rw [if_neg hse] at hd
   simp only [List.append_assoc] at hd
   obtain ⟨e1, d1⟩ := PL_raw [] (g := 0) i0 p0 (by omega) hd
   obtain ⟨e2, d2⟩ := PL_comma (P := []) (z := mx 0 (x.im - x.pr)) (show (0 : Int) + (n - x.pr) ≠ 0 by omega) d1
   obtain ⟨e3, d3⟩ := PL_raw ([] ++ [0 + (n - x.pr)]) (g := 0) i0 (Int.le_refl 0) p0 d2
   rw [hgo _ _ (e1.trans (e2.trans e3)) d3]
   unfold groupF
   rw [last_app]
   have hc : (decide (3 < ([] ++ [0 + (n - x.pr)] ++ [0 + (x.pr - 0)] : List Int).length) || (0 + (x.pr - 0) == 0)) = false := by
    rw [beF (by omega)]; rfl
   rw [hc, if_neg (by decide)]
   show some (_, _) = some (_, _)
   rw [eend _ d3, show (0 : Int) + (x.pr - 0) = x.pr by omega, show x.se = h.se by omega]
   rfl
 ·rw [if_neg hpr] at hd
  obtain ⟨e1, d1⟩ := PL_raw [] (g := 0) i0 (Int.le_refl 0) (by omega) hd
  rw [hgo _ _ e1 d1]
  unfold groupF
  rw [last_app]
  have hc : (decide (3 < ([] ++ [0 + (n - 0)] : List Int).length) || (0 + (n - 0) == 0)) = false := by
   rw [beF (by omega)]; rfl
  have hpr0 : x.pr = 0 := by omega
  rw [hc, if_neg (by decide)]
  show some (_, _) = some (_, _)
  rw [eend _ d1, show x.se = h.se by rw [hps hpr0, hs], show x.pr = h.pr by omega]
  rfl
theorem frac_back {s : ByteArray} {x h : Sb} {p : Int} {r : List UInt8} (hf : Fine x) (hd : Dr s p (fracL x ++ r)) (hr : ∀ c q, r = c :: q → c ≠ 35 ∧ c ≠ 48 ∧ c ≠ 46) (h1 : h.fn = 0) (h2 : h.fx = 0) :
  fracF s p h = some (p + (fracL x).length, {h with fn := x.fn, fx := x.fx}) ∧ Dr s (p + (fracL x).length) r := by
 have hend := hd.app
 refine ⟨?_, hend⟩
 have hlen := hd.len
 have f0 := hf.fx0
 have f1 := hf.fn0
 have f2 := hf.fn1
 unfold fracL at hd
 unfold fracF
 by_cases c : 0 < x.fx
 ·rw [if_pos c] at hd
  simp only [List.append_assoc] at hd
  have hd' : Dr s p (46 :: (List.replicate x.fn.toNat 48 ++ (List.replicate (x.fx - x.fn).toNat 35 ++ r))) := hd
  have r1 : runN s 48 (p + 1) = x.fn := by
   have := runN_reps 48 x.fn.toNat (p + 1) _ hd'.next (by
    intro c q e
    cases hk : (x.fx - x.fn).toNat with
    | zero => rw [hk, List.replicate_zero, List.nil_append] at e; exact (hr c q e).2.1
    | succ k => rw [hk, List.replicate_succ, List.cons_append] at e; obtain ⟨rfl, _⟩ := List.cons.inj e; decide)
   have e48 : ((48 : UInt8).toNat : Int) = 48 := rfl
   rw [e48] at this
   omega
  have d2 := hd'.next.app
  rw [List.length_replicate, show p + 1 + (x.fn.toNat : Int) = p + 1 + x.fn by omega] at d2
  have r2 : runN s 35 (p + 1 + x.fn) = x.fx - x.fn := by
   have := runN_reps 35 (x.fx - x.fn).toNat (p + 1 + x.fn) _ d2 (fun c q e => (hr c q e).1)
   have e35 : ((35 : UInt8).toNat : Int) = 35 := rfl
   rw [e35] at this
   omega
  have hb : bAt s p 46 = true := by
   have := hd'.at_ 46
   rw [dTr rfl] at this
   exact this
  have hz : (x.fn + (x.fx - x.fn) == 0) = false := beF (by omega)
  rw [if_pos hb, r1, r2, hz, if_neg (by decide)]
  have hL : ((fracL x).length : Int) = 1 + x.fx := by
   unfold fracL
   rw [if_pos c]
   simp only [List.length_append, List.length_replicate, List.length_cons, List.length_nil]
   omega
  rw [hL, show x.fn + (x.fx - x.fn) = x.fx by omega, show p + 1 + x.fn + (x.fx - x.fn) = p + (1 + x.fx) by omega]
 ·rw [if_neg c, List.nil_append] at hd
  have hb : bAt s p 46 = false := hd.at_no 46 (fun c q e => (hr c q e).2.2)
  rw [hb, if_neg (by decide)]
  have hL : ((fracL x).length : Int) = 0 := by unfold fracL; rw [if_neg c]; rfl
  rw [hL, Int.add_zero, show x.fx = h.fx by omega, show x.fn = h.fn by omega]
theorem exp_back {s : ByteArray} {x h : Sb} {p : Int} {r : List UInt8} (hf : Fine x) (he : x.em = 0 → x.ep = false) (hd : Dr s p (expL x ++ r)) (hr : RestOk r) (h1 : h.em = 0) (h2 : h.ep = false) :
  expF s p h = (p + (expL x).length, {h with em := x.em, ep := x.ep}) ∧ Dr s (p + (expL x).length) r := by
 have hend := hd.app
 refine ⟨?_, hend⟩
 have m0 := hf.em0
 have p0 := hd.p0
 unfold expL at hd
 unfold expF
 by_cases c : 0 < x.em
 ·rw [if_pos c] at hd
  simp only [List.append_assoc] at hd
  have hd' : Dr s p (69 :: ((if x.ep = true then [43] else []) ++ (List.replicate x.em.toNat 48 ++ r))) := hd
  obtain ⟨k, hk⟩ : ∃ k, x.em.toNat = k + 1 := ⟨x.em.toNat - 1, by omega⟩
  have b69 : bAt s p 69 = true := by have := hd'.at_ 69; rw [dTr rfl] at this; exact this
  have d1 := hd'.next
  have key : bAt s (p + 1) 43 = x.ep ∧ nextP s (p + 1) 43 = p + 1 + (if x.ep = true then 1 else 0) ∧ Dr s (p + 1 + (if x.ep = true then 1 else 0)) (List.replicate x.em.toNat 48 ++ r) ∧ expB s p = true := by
   cases hp : x.ep with
   | true =>
    rw [hp] at d1
    have d2 : Dr s (p + 1) (43 :: (List.replicate x.em.toNat 48 ++ r)) := d1
    have b43 : bAt s (p + 1) 43 = true := by have := d2.at_ 43; rw [dTr rfl] at this; exact this
    have d3 := d2.next
    have b48 : bAt s (p + 1 + 1) 48 = true := by
     have d4 := d3
     rw [hk, List.replicate_succ, List.cons_append] at d4
     have := d4.at_ 48; rw [dTr rfl] at this; exact this
    refine ⟨b43, nextP_yes b43, d3, ?_⟩
    rw [expB_at s p p0, b69, b43, show p + 2 = p + 1 + 1 by omega, b48]
    simp
   | false =>
    rw [hp] at d1
    have d2 : Dr s (p + 1) (List.replicate x.em.toNat 48 ++ r) := d1
    have d4 := d2
    rw [hk, List.replicate_succ, List.cons_append] at d4
    have b48 : bAt s (p + 1) 48 = true := by have := d4.at_ 48; rw [dTr rfl] at this; exact this
    have b43 : bAt s (p + 1) 43 = false := by have := d4.at_ 43; rw [dFa (by decide)] at this; exact this
    refine ⟨b43, ?_, ?_, ?_⟩
    ·rw [nextP_no b43]; simp
    ·simpa using d2
    ·rw [expB_at s p p0, b69, b48]; rfl
  obtain ⟨k1, k2, k3, k4⟩ := key
  have r1 : runN s 48 (p + 1 + (if x.ep = true then 1 else 0)) = x.em := by
   have := runN_reps 48 x.em.toNat _ _ k3 (fun c q e => (rest_head hr c q e).2.1)
   have e48 : ((48 : UInt8).toNat : Int) = 48 := rfl
   rw [e48] at this
   omega
  have hL : ((expL x).length : Int) = 1 + (if x.ep = true then 1 else 0) + x.em := by
   unfold expL
   rw [if_pos c]
   simp only [List.length_append, List.length_replicate, List.length_cons, List.length_nil]
   split <;> (simp only [List.length_cons, List.length_nil]; omega)
  rw [k4, if_pos rfl, k2, r1, k1, hL]
  congr 1
  omega
 ·rw [if_neg c, List.nil_append] at hd
  have hz : x.em = 0 := by omega
  have hb : expB s p = false := by
   rw [expB_at s p p0]
   cases r with
   | nil => rw [hd.at_nil]; rfl
   | cons c1 q1 =>
    by_cases e1 : c1 = 69
    ·subst e1
     have q1ok := rest_tail hr (by decide) (by decide) (by decide)
     have d1 := hd.next
     have n48 : bAt s (p + 1) 48 = false := d1.at_no 48 (fun c q e => (rest_head q1ok c q e).2.1)
     rw [n48, Bool.false_or]
     cases q1 with
     | nil => rw [d1.at_nil 43, Bool.false_and, Bool.and_false]
     | cons c2 q2 =>
      by_cases e2 : c2 = 43
      ·subst e2
       have q2ok := rest_tail q1ok (by decide) (by decide) (by decide)
       have d2 := d1.next
       have n48' : bAt s (p + 2) 48 = false := by
        rw [show p + 2 = p + 1 + 1 by omega]
        exact d2.at_no 48 (fun c q e => (rest_head q2ok c q e).2.1)
       rw [n48', Bool.and_false, Bool.and_false]
      ·have := d1.at_ 43
       rw [dFa e2] at this
       rw [show bAt s (p + 1) 43 = false from this, Bool.false_and, Bool.and_false]
    ·have := hd.at_ 69
     rw [dFa e1] at this
     rw [show bAt s p 69 = false from this]
     rfl
  have hL : ((expL x).length : Int) = 0 := by unfold expL; rw [if_neg c]; rfl
  rw [hb, if_neg (by decide), hL, Int.add_zero, show x.em = h.em by omega, show x.ep = h.ep by rw [he hz, h2]]
end Go.Proofs.Ytacnjemndfmbhaa.Q
end
section
namespace Go.Proofs.Ytacnjemndfmbhaa.Q
open Go.RowKit Go.Proofs.Ytacnjemndfmbhaa.A Go.Proofs.Ytacnjemndfmbhaa.R1 Go.Proofs.YtacnjemndfmbhaaW.PrintWords Go.Proofs.YtacnjemndfmbhaaW.PrintLast Go.Proofs.YtacnjemndfmbhaaW.PrintMore
set_option linter.unusedVariables false
set_option linter.unusedSimpArgs false
theorem stops_letters : ∀ n : Fin 256, stopB stops1 ((UInt8.ofNat n).toNat : Int) = decide (UInt8.ofNat n ∈ LETTERS) ∧ (stopB stops2 ((UInt8.ofNat n).toNat : Int) = true → UInt8.ofNat n ∈ LETTERS) := by decide +kernel
theorem stop1 (b : UInt8) : stopB stops1 (b.toNat : Int) = decide (b ∈ LETTERS) := by
 have := (stops_letters ⟨b.toNat, b.toNat_lt⟩).1
 simpa only [UInt8.ofNat_toNat] using this
theorem stop2 (b : UInt8) : stopB stops2 (b.toNat : Int) = true → b ∈ LETTERS := by
 have := (stops_letters ⟨b.toNat, b.toNat_lt⟩).2
 simpa only [UInt8.ofNat_toNat] using this
theorem stop_clean {s st : ByteArray} (hst : ∀ b : UInt8, stopB st (b.toNat : Int) = true → b ∈ LETTERS) : ∀ (A : List UInt8) (q q' : Bool) (p : Int) (r : List UInt8), Dr s p (A ++ r) → clean A q = some q' → stopF s st ((s.size : Int) - p).toNat q p = stopF s st ((s.size : Int) - (p + A.length)).toNat q' (p + A.length)
 | [], q, q', p, r, hd, hc => by
  obtain rfl := Option.some.inj hc
  rw [show p + (([] : List UInt8).length : Int) = p by simp]
 | b :: A, q, q', p, r, hd, hc => by
  rw [List.cons_append] at hd
  have hlt := hd.lt
  have ih := fun q hc => stop_clean hst A q q' (p + 1) r hd.next hc
  rw [show ((s.size : Int) - p).toNat = ((s.size : Int) - (p + 1)).toNat + 1 by omega]
  conv => lhs; unfold stopF
  rw [hd.bt]
  unfold clean at hc
  have e39 : ((b.toNat : Int) = 39) ↔ b = 39 := ⟨fun e => UInt8.toNat_inj.mp (by show b.toNat = 39; omega), fun e => by rw [e]; rfl⟩
  rw [List.length_cons, show p + ((A.length + 1 : Nat) : Int) = p + 1 + (A.length : Int) by omega]
  by_cases hb : b = 39
  ·rw [if_pos hb] at hc
   rw [if_pos (e39.mpr hb)]
   exact ih _ hc
  ·rw [if_neg hb] at hc
   rw [if_neg (fun e => hb (e39.mp e))]
   by_cases hm : (!q && decide (b ∈ LETTERS)) = true
   ·rw [if_pos hm] at hc; exact absurd hc (by simp)
   ·rw [if_neg hm] at hc
    rw [if_neg, ih _ hc]
    intro h
    rw [Bool.and_eq_true] at h
    exact hm (by rw [h.1, dTr (hst b h.2)]; rfl)
theorem stopN_clean {s st : ByteArray} (hst : ∀ b : UInt8, stopB st (b.toNat : Int) = true → b ∈ LETTERS) {A r : List UInt8} {p : Int} (hd : Dr s p (A ++ r)) (hc : clean A false = some false) (hr : r = [] ∨ ∃ c q, r = c :: q ∧ c ≠ 39 ∧ stopB st (c.toNat : Int) = true) : stopN s st p = p + A.length := by
 unfold stopN
 rw [stop_clean hst A false false p r hd hc]
 have h2 := hd.app
 rcases hr with rfl | ⟨c, q, rfl, h39, hs⟩
 ·have := h2.len
  simp only [List.length_nil] at this
  rw [show ((s.size : Int) - (p + A.length)).toNat = 0 by omega]
  rfl
 ·have := h2.lt
  rw [show ((s.size : Int) - (p + A.length)).toNat = ((s.size : Int) - (p + A.length + 1)).toNat + 1 by omega]
  unfold stopF
  rw [h2.bt, hs, if_neg, if_pos (show (!false && true) = true from rfl)]
  intro e
  exact h39 (UInt8.toNat_inj.mp (by show c.toNat = 39; omega))
theorem tok_back {s st : ByteArray} (hst : ∀ b : UInt8, stopB st (b.toNat : Int) = true → b ∈ LETTERS) {l : List S53} {r : List UInt8} {p : Int} (hk : checkS l = 0) (hd : Dr s p ((printT l).1.data.toList ++ r)) (hr : r = [] ∨ ∃ c q, r = c :: q ∧ c ≠ 39 ∧ stopB st (c.toNat : Int) = true) : stopN s st p = p + (printT l).1.data.toList.length ∧ tokT s st p = (l, 0) := by
 have h1 := stopN_clean hst hd (print_clean l) hr
 refine ⟨h1, ?_⟩
 unfold tokT
 rw [h1, hd.ext, ← bytes_of (printT l).1 _ rfl, parse_print l hk]
def padAt (x : Sb) (k : Int) : ByteArray × Int := if x.pad.toList.isEmpty = false ∧ x.pa ≤ k then (x.pad, x.pa) else (⟨#[]⟩, 0)
theorem pad_empty {b : ByteArray} (h : b.toList.isEmpty = true) : b = ⟨#[]⟩ := nil_of b (List.isEmpty_iff.mp h)
theorem one_rune {b : ByteArray} (h : R1.runesS b = 1) : R1.runeS b 0 = b.size ∧ b.size ≠ 0 := by
 unfold R1.runesS at h
 cases hc : cnt b (b.size + 1) 0 with
 | none => rw [hc] at h; exact absurd h (by decide)
 | some r =>
  rw [hc] at h
  have hr : r = 1 := h
  subst hr
  rw [cnt_succ] at hc
  by_cases h0 : (0 : Int) < b.size
  ·rw [if_pos h0] at hc
   by_cases hz : R1.runeS b 0 = 0
   ·rw [if_pos hz] at hc; exact absurd hc (by simp)
   ·rw [if_neg hz] at hc
    obtain ⟨q, hq, h1⟩ := Option.map_eq_some_iff.mp hc
    have hq0 : q = 0 := by omega
    subst hq0
    have hp := rune_pos b 0 hz
    obtain ⟨n, hn⟩ : ∃ n, b.size = n + 1 := ⟨b.size - 1, by omega⟩
    rw [hn, cnt_succ] at hq
    by_cases hl : 0 + R1.runeS b 0 < b.size
    ·rw [if_pos hl] at hq
     by_cases hz2 : R1.runeS b (0 + R1.runeS b 0) = 0
     ·rw [if_pos hz2] at hq; exact absurd hq (by simp)
     ·rw [if_neg hz2] at hq
      obtain ⟨q2, hq2, h2⟩ := Option.map_eq_some_iff.mp hq
      have hp2 := rune_pos b _ hz2
      have := (cnt_range b n _ q2 (by omega) (by omega) hq2).1
      omega
    ·omega
  ·rw [if_neg h0] at hc; exact absurd hc (by simp)
theorem rune_at {s b : ByteArray} {p : Int} {r : List UInt8} (hd : Dr s p (b.data.toList ++ r)) (h : runesS b = 1) : runeS s p = b.size := by
 rw [runesS_eq] at h
 obtain ⟨h1, h2⟩ := one_rune h
 have h0 := hd.p0
 have hl : s.data.toList.length = s.size := rfl
 obtain ⟨u, hu⟩ : ∃ u : ByteArray, u = ⟨(s.data.toList.take p.toNat).toArray⟩ := ⟨_, rfl⟩
 have hus : (u.size : Int) = p := by
  rw [hu]
  show ((s.data.toList.take p.toNat).toArray.size : Int) = p
  have := hd.p1
  simp only [List.size_toArray, List.length_take]
  omega
 have hs : s = u ++ (b ++ ⟨r.toArray⟩) := by
  apply bytes_inj
  rw [ByteArray.data_append, ByteArray.data_append, Array.toList_append, Array.toList_append, hu]
  show _ = s.data.toList.take p.toNat ++ (b.data.toList ++ r)
  rw [← hd.eq, List.take_append_drop]
 have hz : R1.runeS b 0 ≠ 0 := by omega
 have e := runeS_right u (b ++ ⟨r.toArray⟩) (Int.le_refl 0)
 rw [← hs, Int.add_zero, hus] at e
 rw [e, runeS_eq, runeS_app_left b _ 0 hz, h1]
theorem fill_data (x : Sb) (k : Int) : (fillS x k).data.toList = if x.pad.toList.isEmpty = true then [] else if x.pa = k then 42 :: x.pad.data.toList else [] := by
 unfold fillS
 split
 ·rfl
 ·split
  ·rw [ByteArray.data_append, Array.toList_append]; rfl
  ·rfl
theorem fill_back {s : ByteArray} {x h : Sb} {k p : Int} {r : List UInt8} (hx : x.pad.toList.isEmpty = true ∨ runesS x.pad = 1) (hd : Dr s p ((fillS x k).data.toList ++ r)) (hr : (fillS x k).data.toList = [] → ∀ c q, r = c :: q → c ≠ 42) (hh : (h.pad, h.pa) = padAt x (k - 1)) :
  fillF s p h k = some (p + (fillS x k).data.toList.length, {h with pad := (padAt x k).1, pa := (padAt x k).2}) := by
 have hh1 : h.pad = (padAt x (k - 1)).1 := congrArg Prod.fst hh
 have hh2 : h.pa = (padAt x (k - 1)).2 := congrArg Prod.snd hh
 by_cases hc : x.pad.toList.isEmpty = false ∧ x.pa = k
 ·have hf : (fillS x k).data.toList = 42 :: x.pad.data.toList := by rw [fill_data, if_neg (by rw [hc.1]; decide), if_pos hc.2]
  rw [hf] at hd ⊢
  have hd' : Dr s p (42 :: (x.pad.data.toList ++ r)) := hd
  have hp1 : runesS x.pad = 1 := by
   rcases hx with h1 | h1
   ·rw [hc.1] at h1; exact absurd h1 (by decide)
   ·exact h1
  have hru := rune_at hd'.next hp1
  have hpe : h.pad = ⟨#[]⟩ := by rw [hh1]; unfold padAt; rw [if_neg (by omega)]
  have hsz : x.pad.size ≠ 0 := by
   intro e
   have : x.pad = ⟨#[]⟩ := bytes_of _ [] (List.eq_nil_of_length_eq_zero (show x.pad.data.toList.length = 0 from e))
   rw [this] at hc
   exact absurd hc.1 (by decide +kernel)
  have hb : bAt s p 42 = true := by have := hd'.at_ 42; rw [dTr rfl] at this; exact this
  unfold fillF
  rw [if_pos hb, hru, if_neg]
  ·have he := hd'.next.ext
   have hl : (x.pad.data.toList.length : Int) = x.pad.size := rfl
   rw [hl] at he
   rw [he, ← bytes_of x.pad _ rfl]
   unfold padAt
   rw [if_pos ⟨hc.1, by omega⟩, List.length_cons]
   have e1 : p + 1 + (x.pad.size : Int) = p + ((x.pad.data.toList.length + 1 : Nat) : Int) := by omega
   rw [e1, hc.2]
  ·rw [hpe]
   intro e
   rw [Bool.or_eq_true] at e
   rcases e with e | e
   ·have := beq_iff_eq.mp e; omega
   ·exact absurd e (by decide +kernel)
 ·have hf : (fillS x k).data.toList = [] := by
   rw [fill_data]
   cases he : x.pad.toList.isEmpty with
   | true => rfl
   | false => rw [if_neg (by decide), if_neg (fun e => hc ⟨he, e⟩)]
  rw [hf, List.nil_append] at hd
  have hb : bAt s p 42 = false := hd.at_no 42 (hr hf)
  have hpk : padAt x (k - 1) = padAt x k := by
   unfold padAt
   by_cases he : x.pad.toList.isEmpty = false
   ·have hne : x.pa ≠ k := fun e => hc ⟨he, e⟩
    by_cases hle : x.pa ≤ k
    ·rw [if_pos ⟨he, by omega⟩, if_pos ⟨he, hle⟩]
    ·rw [if_neg (by omega), if_neg (by omega)]
   ·rw [if_neg (fun e => he e.1), if_neg (fun e => he e.1)]
  unfold fillF
  rw [hb, if_neg (by decide), hf, ← hpk, ← hh1, ← hh2]
  simp
theorem digL_len {x : Sb} {n : Int} (hf : Fine x) (hn : leastS x ≤ n) : ((digL x n).length : Int) = n + (((if 0 < x.pr then (if 0 < x.se then 2 else 1) else 0 : Nat) : Int) + (fracL x).length + (expL x).length) := by
 obtain ⟨i0, i1, _, _, _, _, p0, p1, s0, s1, _, _, hps⟩ := hf
 have hl1 : 1 ≤ n := aP137
 unfold digL placesL
 by_cases hpr : 0 < x.pr
 ·have hn3 : x.pr + x.se + 1 ≤ n := aP138
  rw [if_pos hpr, if_pos hpr]
  by_cases hse : 0 < x.se
  ·rw [if_pos hse, if_pos hse]
   have a1 := raw_len x.im n (x.pr + x.se) i0 (by omega) (by omega)
   have a2 := raw_len x.im (x.pr + x.se) x.pr i0 p0 (by omega)
   have a3 := raw_len x.im x.pr 0 i0 (Int.le_refl 0) p0
   simp only [List.length_append, List.length_cons, List.length_nil]
   omega
  ·rw [if_neg hse, if_neg hse]
   have a1 := raw_len x.im n x.pr i0 p0 (by omega)
   have a3 := raw_len x.im x.pr 0 i0 (Int.le_refl 0) p0
   simp only [List.length_append, List.length_cons, List.length_nil]
   omega
 ·rw [if_neg hpr, if_neg hpr]
  have a3 := raw_len x.im n 0 i0 (Int.le_refl 0) (by omega)
  simp only [List.length_append]
  omega
theorem places_head {x : Sb} {n : Int} (hf : Fine x) (hn : leastS x ≤ n) : ∃ c q, placesL x n = c :: q ∧ (c = 35 ∨ c = 48) := by
 obtain ⟨i0, i1, _, _, _, _, p0, p1, s0, s1, _, _, hps⟩ := hf
 have hl1 : 1 ≤ n := aP137
 have raw : ∀ lo, 0 ≤ lo → lo < n → ∀ t, ∃ c q, rawD x.im n lo ++ t = c :: q ∧ (c = 35 ∨ c = 48) := by
  intro lo h0 h1 t
  have hl := raw_len x.im n lo i0 h0 (by omega)
  cases hr : rawD x.im n lo with
  | nil => rw [hr] at hl; simp at hl; omega
  | cons c q =>
   refine ⟨c, q ++ t, rfl, ?_⟩
   have hm : c ∈ rawD x.im n lo := by rw [hr]; simp
   unfold rawD at hm
   rcases List.mem_append.mp hm with hm | hm
   ·exact .inl (List.eq_of_mem_replicate hm)
   ·exact .inr (List.eq_of_mem_replicate hm)
 unfold placesL
 by_cases hpr : 0 < x.pr
 ·have hn3 : x.pr + x.se + 1 ≤ n := aP138
  rw [if_pos hpr]
  by_cases hse : 0 < x.se
  ·rw [if_pos hse]
   simp only [List.append_assoc]
   exact raw _ (by omega) (by omega) _
  ·rw [if_neg hse]
   simp only [List.append_assoc]
   exact raw _ (by omega) (by omega) _
 ·rw [if_neg hpr]
  have := raw 0 (Int.le_refl 0) (by omega) []
  rwa [List.append_nil] at this
structure HalfOk (x : Sb) : Prop where
 cp : checkS x.p = 0
 cs : checkS x.s = 0
 fine : Fine x
 ep : x.em = 0 → x.ep = false
 wide : leastS x ≤ wideS x
 pad : x.pad.toList.isEmpty = true ∨ runesS x.pad = 1
 none : x.pad.toList.isEmpty = true → x.pa = 0 ∧ x.wd = 0
 some : x.pad.toList.isEmpty = false → 0 ≤ x.pa ∧ x.pa ≤ 3 ∧ (x.pa = 1 → x.p ≠ []) ∧ (x.pa = 3 → x.s ≠ []) ∧ x.wd = runesT x.p + (digL x (wideS x)).length + runesT x.s ∧ x.wd ≤ 99
theorem half_ok {x : Sb} (h : halfS x = true) : HalfOk x := by
 unfold halfS at h
 simp only [Bool.and_eq_true, beq_iff_eq, Bool.not_eq_true'] at h
 obtain ⟨h1, h2, h3, h4, h5⟩ := h
 have hf := fine_of h3 h4
 have hep : x.em = 0 → x.ep = false := by
  intro e
  unfold oddB at h4
  simp only [Bool.or_eq_false_iff, Bool.and_eq_false_iff] at h4
  rcases h4.2.1 with h | h
  ·rw [e] at h; exact absurd h (by decide)
  ·exact h
 unfold padB at h5
 cases he : x.pad.toList.isEmpty with
 | true =>
  rw [he, if_pos rfl] at h5
  simp only [Bool.and_eq_true, beq_iff_eq] at h5
  exact ⟨h1, h2, hf, hep, by unfold wideS; rw [if_pos he]; exact Int.le_refl _, .inl he, fun _ => h5, fun e => by rw [he] at e; exact absurd e (by decide)⟩
 | false =>
  rw [he, if_neg (by decide)] at h5
  simp only [Bool.and_eq_true, beq_iff_eq, Bool.not_eq_true', inB, decide_eq_true_eq, edgeB, Bool.or_eq_false_iff, Bool.and_eq_false_iff, beq_eq_false_iff_ne] at h5
  obtain ⟨k1, ⟨k2, k3⟩, ⟨k4, k5⟩, k6, k7⟩ := h5
  have hw : wideS x = leastS x + (x.wd - lengthS x (leastS x)) := by unfold wideS; rw [if_neg (by rw [he]; decide)]
  refine ⟨h1, h2, hf, hep, by omega, .inr k1, fun e => by rw [he] at e; exact absurd e (by decide), fun _ => ⟨k2, k3, ?_, ?_, ?_, k7⟩⟩
  ·intro e1 e2
   rcases k4 with k | k
   ·exact k e1
   ·exact k (by rw [e2]; rfl)
  ·intro e1 e2
   rcases k5 with k | k
   ·exact k e1
   ·exact k (by rw [e2]; rfl)
  ·have a := digL_len hf (n := leastS x) (Int.le_refl _)
   have b := digL_len hf (n := wideS x) (by omega)
   unfold lengthS at hw k6
   omega
theorem text_data (x : Sb) : (textS x).data.toList = (fillS x 0).data.toList ++ ((printT x.p).1.data.toList ++ ((fillS x 1).data.toList ++ (placesL x (wideS x) ++ (fracL x ++ (expL x ++ ((fillS x 2).data.toList ++ ((printT x.s).1.data.toList ++ (fillS x 3).data.toList))))))) := by
 unfold textS
 simp only [ByteArray.data_append, Array.toList_append, List.append_assoc]
 show _ ++ (_ ++ (_ ++ ((digL x (wideS x)) ++ _))) = _
 unfold digL
 simp only [List.append_assoc]
theorem rest_ok {x : Sb} (h : HalfOk x) : RestOk ((fillS x 2).data.toList ++ ((printT x.s).1.data.toList ++ (fillS x 3).data.toList)) := by
 have hB : ∀ k, (fillS x k).data.toList = [] ∨ ∃ q, (fillS x k).data.toList = 42 :: q := by
  intro k
  rw [fill_data]
  split
  ·exact .inl rfl
  ·split
   ·exact .inr ⟨_, rfl⟩
   ·exact .inl rfl
 rcases hB 2 with h2 | ⟨q, h2⟩
 ·rw [h2, List.nil_append]
  refine ⟨_, _, rfl, print_clean x.s, ?_⟩
  rcases hB 3 with h3 | ⟨q, h3⟩
  ·exact .inl h3
  ·exact .inr ⟨q, .inl h3⟩
 ·rw [h2]
  exact ⟨[], _, rfl, rfl, .inr ⟨_, .inl rfl⟩⟩
theorem fill_only {x : Sb} (h : HalfOk x) {k : Int} (hn : (fillS x k).data.toList ≠ []) : x.pad.toList.isEmpty = false ∧ x.pa = k := by
 rw [fill_data] at hn
 cases he : x.pad.toList.isEmpty with
 | true => rw [he, if_pos rfl] at hn; exact absurd rfl hn
 | false =>
  rw [he, if_neg (by decide)] at hn
  by_cases hk : x.pa = k
  ·exact ⟨rfl, hk⟩
  ·rw [if_neg hk] at hn; exact absurd rfl hn
theorem clean_no42 {A r : List UInt8} (hc : clean A false = some false) (hn : A ≠ []) : ∀ c q, A ++ r = c :: q → c ≠ 42 := by
 intro c q e
 cases A with
 | nil => exact absurd rfl hn
 | cons b A =>
  obtain ⟨rfl, _⟩ := List.cons.inj e
  by_cases hb : b = 39
  ·subst hb; decide
  ·rintro rfl
   exact (clean_head hc hb).1 (by decide)
theorem places_no42 {x : Sb} {n : Int} {r : List UInt8} (hf : Fine x) (hn : leastS x ≤ n) : ∀ c q, placesL x n ++ r = c :: q → c ≠ 42 := by
 intro c q e
 obtain ⟨c2, q2, h1, h2⟩ := places_head hf hn
 rw [h1] at e
 obtain ⟨rfl, _⟩ := List.cons.inj e
 rcases h2 with rfl | rfl <;> decide
set_option maxHeartbeats 1000000 in
theorem scan_text {x : Sb} (hx : halfS x = true) : scanA (textS x) 0 = some (((textS x).size : Int), x) := by
 have h := half_ok hx
 obtain ⟨s, hs⟩ : ∃ s, textS x = s := ⟨_, rfl⟩
 have d0 := Dr.start (textS x)
 rw [text_data, hs] at d0
 rw [hs]
 obtain ⟨P, hP⟩ : ∃ P, (printT x.p).1.data.toList = P := ⟨_, rfl⟩
 obtain ⟨S, hS⟩ : ∃ S, (printT x.s).1.data.toList = S := ⟨_, rfl⟩
 obtain ⟨n, hn⟩ : ∃ n, wideS x = n := ⟨_, rfl⟩
 have hw := h.wide
 have hrest := rest_ok h
 have cP := print_clean x.p
 have cS := print_clean x.s
 have nP : x.p ≠ [] → P ≠ [] := fun e => by rw [← hP]; exact print_ne h.cp e
 have nS : x.s ≠ [] → S ≠ [] := fun e => by rw [← hS]; exact print_ne h.cs e
 have zP : x.p = [] → P = [] := fun e => by rw [← hP, e, print_nil]
 have zS : x.s = [] → S = [] := fun e => by rw [← hS, e, print_nil]
 rw [hP] at d0 cP
 rw [hS] at d0 cS hrest
 rw [hn] at d0 hw
 have hf := h.fine
 have p1 : x.p = [] → (fillS x 1).data.toList = [] := by
  intro e
  by_cases c : (fillS x 1).data.toList = []
  ·exact c
  ·obtain ⟨c1, c2⟩ := fill_only h c
   exact absurd e ((h.some c1).2.2.1 c2)
 have p3 : x.s = [] → (fillS x 3).data.toList = [] := by
  intro e
  by_cases c : (fillS x 3).data.toList = []
  ·exact c
  ·obtain ⟨c1, c2⟩ := fill_only h c
   exact absurd e ((h.some c1).2.2.2.1 c2)
 -- ahead
 have pm : padAt x (0 - 1) = (⟨#[]⟩, 0) := by
  unfold padAt
  rw [if_neg]
  rintro ⟨e1, e2⟩
  have := (h.some e1).1
  omega
 have s0 := fill_back (h := zeroSb2) h.pad d0 (by
  intro hz
  by_cases e : x.p = []
  ·rw [zP e, p1 e, List.nil_append, List.nil_append]
   exact places_no42 hf hw
  ·exact clean_no42 cP (nP e)) pm.symm
 have d1 := d0.app
 obtain ⟨q1, hq1⟩ : ∃ q1, (0 : Int) + (fillS x 0).data.toList.length = q1 := ⟨_, rfl⟩
 rw [hq1] at s0 d1
 -- the prefix
 have s1 := tok_back (fun b hb => by rw [stop1] at hb; exact of_decide_eq_true hb) h.cp (st := stops1) (s := s) (p := q1) (r := (fillS x 1).data.toList ++ (placesL x n ++ (fracL x ++ (expL x ++ ((fillS x 2).data.toList ++ (S ++ (fillS x 3).data.toList)))))) (by rw [hP]; exact d1) (.inr (by
  by_cases c : (fillS x 1).data.toList = []
  ·rw [c, List.nil_append]
   obtain ⟨c2, q2, h1, h2⟩ := places_head hf hw
   rw [h1]
   refine ⟨c2, _, rfl, ?_, ?_⟩
   ·rcases h2 with rfl | rfl <;> decide
   ·rw [stop1]; rcases h2 with rfl | rfl <;> decide
  ·obtain ⟨c1, c2⟩ := fill_only h c
   rw [fill_data, if_neg (by rw [c1]; decide), if_pos c2]
   exact ⟨42, _, rfl, by decide, by decide⟩))
 have d2 := d1.app
 rw [hP] at s1
 obtain ⟨q2, hq2⟩ : ∃ q2, q1 + (P.length : Int) = q2 := ⟨_, rfl⟩
 rw [hq2] at s1 d2
 -- behind the prefix
 have s2 : fillIf x.p s q2 ⟨x.p, [], 0, 0, 0, 0, 0, 0, false, (padAt x 0).1, (padAt x 0).2, 0⟩ 1 = some (q2 + (fillS x 1).data.toList.length, ⟨x.p, [], 0, 0, 0, 0, 0, 0, false, (padAt x 1).1, (padAt x 1).2, 0⟩) := by
  unfold fillIf
  by_cases e : x.p = []
  ·have hpe : padAt x 1 = padAt x 0 := by
    unfold padAt
    by_cases c : x.pad.toList.isEmpty = false
    ·have := (h.some c).2.2.1
     have hne : x.pa ≠ 1 := fun e1 => this e1 e
     by_cases c2 : x.pa ≤ 0
     ·rw [if_pos ⟨c, by omega⟩, if_pos ⟨c, c2⟩]
     ·rw [if_neg (by omega), if_neg (by omega)]
    ·rw [if_neg (fun e => c e.1), if_neg (fun e => c e.1)]
   rw [if_pos (by rw [e]; rfl), p1 e, hpe]
   simp
  ·rw [if_neg (fun hl => e (List.eq_nil_of_length_eq_zero hl))]
   exact fill_back (h := ⟨x.p, [], 0, 0, 0, 0, 0, 0, false, (padAt x 0).1, (padAt x 0).2, 0⟩) h.pad d2 (fun _ => places_no42 hf hw) rfl
 have d3 := d2.app
 obtain ⟨q3, hq3⟩ : ∃ q3, q2 + ((fillS x 1).data.toList.length : Int) = q3 := ⟨_, rfl⟩
 rw [hq3] at s2 d3
 -- places
 have hexp : ∀ c q, expL x ++ ((fillS x 2).data.toList ++ (S ++ (fillS x 3).data.toList)) = c :: q → c ≠ 35 ∧ c ≠ 48 ∧ c ≠ 44 ∧ c ≠ 46 := by
  intro c q e
  unfold expL at e
  split at e
  ·have e' : (69 : UInt8) :: _ = c :: q := e
   obtain ⟨rfl, _⟩ := List.cons.inj e'
   decide
  ·rw [List.nil_append] at e
   exact rest_head hrest c q e
 have s3 := places_back (h := ⟨x.p, [], 0, 0, 0, 0, 0, 0, false, (padAt x 1).1, (padAt x 1).2, 0⟩) hf hw d3 (by
  intro c q e
  unfold fracL at e
  split at e
  ·have e' : (46 : UInt8) :: _ = c :: q := e
   obtain ⟨rfl, _⟩ := List.cons.inj e'
   decide
  ·rw [List.nil_append] at e
   have := hexp c q e
   exact ⟨this.1, this.2.1, this.2.2.1⟩) rfl rfl
 obtain ⟨s3, d4⟩ := s3
 obtain ⟨q4, hq4⟩ : ∃ q4, q3 + ((placesL x n).length : Int) = q4 := ⟨_, rfl⟩
 rw [hq4] at s3 d4
 -- fraction and exponent
 obtain ⟨s4, d5⟩ := frac_back (h := ⟨x.p, [], x.im, 0, 0, x.pr, x.se, 0, false, (padAt x 1).1, (padAt x 1).2, 0⟩) hf d4 (fun c q e => by have := hexp c q e; exact ⟨this.1, this.2.1, this.2.2.2⟩) rfl rfl
 obtain ⟨s5, d6⟩ := exp_back (h := ⟨x.p, [], x.im, x.fn, x.fx, x.pr, x.se, 0, false, (padAt x 1).1, (padAt x 1).2, 0⟩) hf h.ep d5 hrest rfl rfl
 obtain ⟨q6, hq6⟩ : ∃ q6, q4 + ((fracL x).length : Int) + (expL x).length = q6 := ⟨_, rfl⟩
 rw [hq6] at s5 d6
 -- ahead of the suffix
 have s6 := fill_back (h := ⟨x.p, [], x.im, x.fn, x.fx, x.pr, x.se, x.em, x.ep, (padAt x 1).1, (padAt x 1).2, 0⟩) (k := 2) h.pad d6 (by
  intro hz
  by_cases e : x.s = []
  ·rw [zS e, p3 e]
   intro c q e2
   exact absurd e2 (by simp)
  ·exact clean_no42 cS (nS e)) rfl
 have d7 := d6.app
 obtain ⟨q7, hq7⟩ : ∃ q7, q6 + ((fillS x 2).data.toList.length : Int) = q7 := ⟨_, rfl⟩
 rw [hq7] at s6 d7
 -- the suffix
 have s7 := tok_back stop2 h.cs (st := stops2) (s := s) (p := q7) (r := (fillS x 3).data.toList) (by rw [hS]; exact d7) (by
  by_cases c : (fillS x 3).data.toList = []
  ·exact .inl c
  ·obtain ⟨c1, c2⟩ := fill_only h c
   rw [fill_data, if_neg (by rw [c1]; decide), if_pos c2]
   exact .inr ⟨42, _, rfl, by decide, by decide⟩)
 have d8 := d7.app
 rw [hS] at s7
 obtain ⟨q8, hq8⟩ : ∃ q8, q7 + (S.length : Int) = q8 := ⟨_, rfl⟩
 rw [hq8] at s7 d8
 -- behind the suffix
 have hend : q8 + ((fillS x 3).data.toList.length : Int) = s.size := by have := d8.len; omega
 have d8' : Dr s q8 ((fillS x 3).data.toList ++ []) := by rw [List.append_nil]; exact d8
 have s8 : fillIf x.s s q8 ⟨x.p, x.s, x.im, x.fn, x.fx, x.pr, x.se, x.em, x.ep, (padAt x 2).1, (padAt x 2).2, 0⟩ 3 = some ((s.size : Int), ⟨x.p, x.s, x.im, x.fn, x.fx, x.pr, x.se, x.em, x.ep, x.pad, x.pa, 0⟩) := by
  have hp3 : padAt x 3 = (x.pad, x.pa) := by
   unfold padAt
   by_cases c : x.pad.toList.isEmpty = false
   ·rw [if_pos ⟨c, (h.some c).2.1⟩]
   ·have c' : x.pad.toList.isEmpty = true := by simpa using c
    rw [if_neg (fun e => c e.1), pad_empty c', (h.none c').1]
  unfold fillIf
  by_cases e : x.s = []
  ·have hpe : padAt x 3 = padAt x 2 := by
    unfold padAt
    by_cases c : x.pad.toList.isEmpty = false
    ·have := (h.some c).2.2.2.1
     have hne : x.pa ≠ 3 := fun e1 => this e1 e
     by_cases c2 : x.pa ≤ 2
     ·rw [if_pos ⟨c, by omega⟩, if_pos ⟨c, c2⟩]
     ·rw [if_neg (by omega), if_neg (by omega)]
    ·rw [if_neg (fun e => c e.1), if_neg (fun e => c e.1)]
   have hl := hend
   rw [p3 e] at hl
   rw [if_pos (by rw [e]; rfl), ← hpe, hp3, ← hl]
   simp
  ·rw [if_neg (fun hl => e (List.eq_nil_of_length_eq_zero hl))]
   rw [fill_back (h := ⟨x.p, x.s, x.im, x.fn, x.fx, x.pr, x.se, x.em, x.ep, (padAt x 2).1, (padAt x 2).2, 0⟩) h.pad d8' (fun _ c q e2 => absurd e2 (by simp)) rfl, hend, hp3]
 -- together
 have hlen : q6 - q4 + (q4 - q3) = (digL x n).length := by
  unfold digL
  rw [List.length_append, List.length_append]
  omega
 have run : runS s (stepsFrom 0) ⟨0, zeroSb2, 0⟩ = some ⟨(s.size : Int), ⟨x.p, x.s, x.im, x.fn, x.fx, x.pr, x.se, x.em, x.ep, x.pad, x.pa, 0⟩, q4 - q3 + (q6 - q4)⟩ := by
  show ((fillF s 0 zeroSb2 0).map fun x => (⟨x.1, x.2, 0⟩ : St)).bind (runS s [1, 2, 3, 4, 5, 6, 7]) = _
  rw [s0]
  show (if (tokT s stops1 q1).2 = 0 then some (⟨stopN s stops1 q1, ⟨(tokT s stops1 q1).1, [], 0, 0, 0, 0, 0, 0, false, (padAt x 0).1, (padAt x 0).2, 0⟩, 0⟩ : St) else none).bind (runS s [2, 3, 4, 5, 6, 7]) = _
  rw [s1.2, s1.1, if_pos rfl]
  show ((fillIf x.p s q2 ⟨x.p, [], 0, 0, 0, 0, 0, 0, false, (padAt x 0).1, (padAt x 0).2, 0⟩ 1).map fun x => (⟨x.1, x.2, 0⟩ : St)).bind (runS s [3, 4, 5, 6, 7]) = _
  rw [s2]
  show ((placesF s q3 ⟨x.p, [], 0, 0, 0, 0, 0, 0, false, (padAt x 1).1, (padAt x 1).2, 0⟩).map fun x => (⟨x.1, x.2, x.1 - q3⟩ : St)).bind (runS s [4, 5, 6, 7]) = _
  rw [s3]
  show ((tailF s q4 ⟨x.p, [], x.im, 0, 0, x.pr, x.se, 0, false, (padAt x 1).1, (padAt x 1).2, 0⟩).map fun x => (⟨x.1, x.2, q4 - q3 + (x.1 - q4)⟩ : St)).bind (runS s [5, 6, 7]) = _
  unfold tailF
  rw [s4]
  show (some (⟨(expF s (q4 + (fracL x).length) ⟨x.p, [], x.im, x.fn, x.fx, x.pr, x.se, 0, false, (padAt x 1).1, (padAt x 1).2, 0⟩).1, (expF s (q4 + (fracL x).length) ⟨x.p, [], x.im, x.fn, x.fx, x.pr, x.se, 0, false, (padAt x 1).1, (padAt x 1).2, 0⟩).2, q4 - q3 + ((expF s (q4 + (fracL x).length) ⟨x.p, [], x.im, x.fn, x.fx, x.pr, x.se, 0, false, (padAt x 1).1, (padAt x 1).2, 0⟩).1 - q4)⟩ : St)).bind (runS s [5, 6, 7]) = _
  rw [s5]
  show ((fillF s q6 ⟨x.p, [], x.im, x.fn, x.fx, x.pr, x.se, x.em, x.ep, (padAt x 1).1, (padAt x 1).2, 0⟩ 2).map fun x => (⟨x.1, x.2, q4 - q3 + (q6 - q4)⟩ : St)).bind (runS s [6, 7]) = _
  rw [s6]
  show (if (tokT s stops2 q7).2 = 0 then some (⟨stopN s stops2 q7, ⟨x.p, (tokT s stops2 q7).1, x.im, x.fn, x.fx, x.pr, x.se, x.em, x.ep, (padAt x 2).1, (padAt x 2).2, 0⟩, q4 - q3 + (q6 - q4)⟩ : St) else none).bind (runS s [7]) = _
  rw [s7.2, s7.1, if_pos rfl]
  show ((fillIf x.s s q8 ⟨x.p, x.s, x.im, x.fn, x.fx, x.pr, x.se, x.em, x.ep, (padAt x 2).1, (padAt x 2).2, 0⟩ 3).map fun x => (⟨x.1, x.2, q4 - q3 + (q6 - q4)⟩ : St)).bind (runS s []) = _
  rw [s8]
  rfl
 unfold scanA
 rw [run]
 show some (_, widthS _) = some (_, _)
 congr 2
 unfold widthS
 by_cases c : x.pad.toList.isEmpty = true
 ·rw [if_pos c]
  have := (h.none c).2
  cases x
  simp only at this
  rw [this]
 ·rw [if_neg c]
  have c' : x.pad.toList.isEmpty = false := by simpa using c
  have := (h.some c').2.2.2.2.1
  rw [hn] at this
  show (⟨x.p, x.s, x.im, x.fn, x.fx, x.pr, x.se, x.em, x.ep, x.pad, x.pa, runesT x.p + (q4 - q3 + (q6 - q4)) + runesT x.s⟩ : Sb) = x
  rw [show runesT x.p + (q4 - q3 + (q6 - q4)) + runesT x.s = x.wd by omega]
theorem zero_is {x : Sb} (h : zeroB x = true) : x = zeroSb2 := by
 have hl : ∀ l : List S53, (l.length == 0) = true → l = [] := fun l h => List.eq_nil_of_length_eq_zero (beq_iff_eq.mp h)
 unfold zeroB at h
 simp only [Bool.and_eq_true] at h
 obtain ⟨h1, h2, h3, h4, h5, h6, h7, h8, h9, h10, h11, h12⟩ := h
 cases x
 simp only [beq_iff_eq, Bool.not_eq_true'] at *
 have e10 := pad_empty h10
 have e1 := List.eq_nil_of_length_eq_zero h1
 have e2 := List.eq_nil_of_length_eq_zero h2
 subst e1; subst e2; subst h3; subst h4; subst h5; subst h6; subst h7; subst h8; subst h9; subst e10; subst h11; subst h12
 rfl
theorem parse_back {x : Pt} (h : checkP x = 0) : parseP (wholeS x) = (x, 0) := by
 have hc := h
 unfold checkP at hc
 by_cases hf : formB x = true
 ·rw [if_pos hf] at hc
  by_cases hz : (wholeS x).size > 128
  ·rw [if_pos hz] at hc; exact absurd hc (by decide)
  ·unfold formB at hf
   rw [Bool.and_eq_true] at hf
   obtain ⟨h1, h2⟩ := hf
   unfold parseP
   rw [if_neg (by omega)]
   obtain ⟨pos, ng, neg⟩ := x
   cases ng with
   | false =>
    have hneg : neg = zeroSb2 := zero_is h2
    subst hneg
    have hw : wholeS ⟨pos, false, zeroSb2⟩ = textS pos := rfl
    have hb : bAt (textS pos) (textS pos).size 59 = false := by unfold bAt; rw [dFa (by omega)]; rfl
    rw [hw, scan_text h1]
    show (if bAt (textS pos) (textS pos).size 59 = true then _ else finP (textS pos) (textS pos).size ⟨pos, false, zeroSb2⟩) = _
    rw [hb, if_neg (by decide)]
    unfold finP
    rw [if_neg (by omega), if_pos h]
   | true =>
    have h2' : halfS neg = true := h2
    obtain ⟨u, hu⟩ : ∃ u : ByteArray, textS pos ++ (⟨#[59]⟩ : ByteArray) = u := ⟨_, rfl⟩
    have hw : wholeS ⟨pos, true, neg⟩ = textS pos ++ ((⟨#[59]⟩ : ByteArray) ++ textS neg) := rfl
    have hw2 : wholeS ⟨pos, true, neg⟩ = u ++ textS neg := by rw [hw, ← hu, app_assoc]
    have hsemi : Semi ((⟨#[59]⟩ : ByteArray) ++ textS neg) := by
     right
     have := bt_app_left (⟨#[59]⟩ : ByteArray) (textS neg) 0 (Int.le_refl 0) (by decide)
     rw [this]
     decide
    have hus : (u.size : Int) = (textS pos).size + 1 := by rw [← hu, size_app]; rfl
    have e1 := scan_left hsemi (Int.le_refl 0) (by omega) (scan_text h1)
    rw [← hw] at e1
    have e2 := scan_right u (textS neg) (Int.le_refl 0) (by omega)
    rw [← hw2, scan_text h2', Int.add_zero, hus] at e2
    have hb : bAt (wholeS ⟨pos, true, neg⟩) (textS pos).size 59 = true := by
     rw [hw]
     have := bAt_right (textS pos) ((⟨#[59]⟩ : ByteArray) ++ textS neg) (p := 0) (c := 59) (Int.le_refl 0)
     rw [Int.add_zero] at this
     rw [this]
     unfold bAt
     rcases hsemi with h0 | h0
     ·have := size_app (⟨#[59]⟩ : ByteArray) (textS neg)
      have h1 : (⟨#[59]⟩ : ByteArray).size = 1 := rfl
      omega
     ·rw [h0, dTr]
      ·rfl
      ·have := size_app (⟨#[59]⟩ : ByteArray) (textS neg)
       have h1 : (⟨#[59]⟩ : ByteArray).size = 1 := rfl
       omega
    rw [e1]
    show (if bAt (wholeS ⟨pos, true, neg⟩) (textS pos).size 59 = true then (match scanA (wholeS ⟨pos, true, neg⟩) ((textS pos).size + 1) with | none => (zeroPt, 140) | some y => finP (wholeS ⟨pos, true, neg⟩) y.1 ⟨pos, true, y.2⟩) else _) = _
    rw [hb, if_pos rfl, e2]
    show finP (wholeS ⟨pos, true, neg⟩) ((textS pos).size + 1 + (textS neg).size) ⟨pos, true, neg⟩ = _
    have hsz : ((wholeS ⟨pos, true, neg⟩).size : Int) = (textS pos).size + 1 + (textS neg).size := by rw [hw2, size_app, hus]
    unfold finP
    rw [if_neg (by omega), if_pos h]
 ·rw [if_neg hf] at hc; exact absurd hc (by decide)
def fixS : ByteArray := ⟨#[35, 44, 35, 35, 48, 46, 48, 35, 35, 59, 40, 42, 120, 48, 41]⟩
def fixA : Sb := ⟨[], [], 1, 1, 3, 3, 0, 0, false, ⟨#[]⟩, 0, 0⟩
def fixB : Sb := ⟨[⟨0, 0, ⟨#[40]⟩⟩], [⟨0, 0, ⟨#[41]⟩⟩], 1, 0, 0, 0, 0, 0, false, ⟨#[120]⟩, 1, 3⟩
def fixP : Pt := ⟨fixA, true, fixB⟩
theorem fix_text : textS fixA = ⟨#[35, 44, 35, 35, 48, 46, 48, 35, 35]⟩ ∧ textS fixB = ⟨#[40, 42, 120, 48, 41]⟩ := by
 simp only [textS, wideS, lengthS, runesT, runesS_eq, printT_eq, fixA, fixB]
 decide +kernel
theorem fix_whole : wholeS fixP = fixS := by
 show textS fixA ++ (⟨#[59]⟩ ++ textS fixB) = fixS
 rw [fix_text.1, fix_text.2]
 decide +kernel
theorem fix_half : halfS fixA = true ∧ halfS fixB = true := by
 simp only [halfS, padB, lengthS, runesT, runesS_eq, checkS_eq, fixA, fixB]
 decide +kernel
theorem fix_check : checkP fixP = 0 := by
 have hf : formB fixP = true := by
  show (halfS fixA && halfS fixB) = true
  rw [fix_half.1, fix_half.2]
  rfl
 unfold checkP
 rw [if_pos hf, fix_whole, if_neg (by decide)]
theorem fix_parse : parseP fixS = (fixP, 0) := by rw [← fix_whole]; exact parse_back fix_check
theorem fix_print : printP fixP = (fixS, 0) := by
 unfold printP
 rw [if_pos fix_check, fix_whole]
def dotS : ByteArray := ⟨#[48, 46]⟩
theorem tok_nil_at {s st : ByteArray} {p : Int} (h : stopN s st p = p) : tokT s st p = ([], 0) := by
 unfold tokT
 rw [h]
 have e : s.extract p.toNat p.toNat = ⟨#[]⟩ := bytes_of _ [] (ext_nil s p)
 rw [e, ← print_nil]
 exact parse_print [] check_nil
theorem dot_parse : parseP dotS = (zeroPt, 140) := by
 have h1 : fillF dotS 0 zeroSb2 0 = some (0, zeroSb2) := by
  unfold fillF
  rw [if_neg (by decide)]
 have h2 : stopN dotS stops1 0 = 0 := by decide +kernel
 have h3 := tok_nil_at h2
 have h4 : tailF dotS 1 ⟨[], [], 1, 0, 0, 0, 0, 0, false, ⟨#[]⟩, 0, 0⟩ = none := by
  unfold tailF fracF
  rw [if_pos (by decide), if_pos (by decide)]
  rfl
 have hp : plF dotS 2 0 [0] 0 = some (1, [1], 1) := by decide
 have run : runS dotS (stepsFrom 0) ⟨0, zeroSb2, 0⟩ = none := by
  show ((fillF dotS 0 zeroSb2 0).map fun x => (⟨x.1, x.2, 0⟩ : St)).bind (runS dotS [1, 2, 3, 4, 5, 6, 7]) = _
  rw [h1]
  show (if (tokT dotS stops1 0).2 = 0 then some (⟨stopN dotS stops1 0, {zeroSb2 with p := (tokT dotS stops1 0).1}, 0⟩ : St) else none).bind (runS dotS [2, 3, 4, 5, 6, 7]) = _
  rw [h3, h2, if_pos rfl]
  show ((placesF dotS 0 zeroSb2).map fun x => (⟨x.1, x.2, x.1 - 0⟩ : St)).bind (runS dotS [4, 5, 6, 7]) = _
  unfold placesF
  show (((plF dotS 2 0 [0] 0).bind _).map _).bind _ = _
  rw [hp]
  show ((tailF dotS 1 ⟨[], [], 1, 0, 0, 0, 0, 0, false, ⟨#[]⟩, 0, 0⟩).map (fun x => (⟨x.1, x.2, 1 + (x.1 - 1)⟩ : St))).bind (runS dotS [5, 6, 7]) = _
  rw [h4]
  rfl
 unfold parseP scanA
 rw [if_neg (by decide), run]
 rfl
end Go.Proofs.Ytacnjemndfmbhaa.Q
end
section
namespace Go.Proofs.Ytacnjemndfmbhaa.Q
open Go.RowKit Go.Proofs.Ytacnjemndfmbhaa.A Go.Proofs.YtacnjemndfmbhaaW.PrintWords Go.Proofs.YtacnjemndfmbhaaW.PrintLast Go.Proofs.YtacnjemndfmbhaaW.PrintMore
set_option linter.unusedVariables false
set_option linter.unusedSimpArgs false
theorem results51 : Try.f51.results = #[.cell 6 24, .tmp 7, .tmp 8] := by kernel_rfl
theorem bAt_parts {s : ByteArray} {p b : Int} : (bAt s p b = false ∧ decide (p < (s.size : Int)) = false ∧ ¬ p < (s.size : Int)) ∨ (bAt s p b = false ∧ p < (s.size : Int) ∧ (bt s p == b) = false) ∨ (bAt s p b = true ∧ p < (s.size : Int) ∧ (bt s p == b) = true) := by
 unfold bAt
 by_cases h : p < (s.size : Int)
 ·rw [dTr h]
  cases (bt s p == b) with
  | true => exact .inr (.inr ⟨rfl, h, rfl⟩)
  | false => exact .inr (.inl ⟨rfl, h, rfl⟩)
 ·rw [dFa h]
  exact .inl ⟨by simp, rfl, h⟩
theorem retF_some {L : Sl} {w w' : World} {r : Option (Int × Sb)} {y : Int × Sb} (hr : r = some y) (hb : Below w.heap.size w w') : RetF L w r (.returned (.tuple #[subV L y.2, .int .i64 y.1, .bool true])) w' := by
 subst hr
 exact ⟨hb, rfl⟩
set_option maxHeartbeats 16000000 in
set_option maxRecDepth 100000 in
theorem tail_calls (L : Sl) (s : ByteArray) (p : Int) (h : Sb) (w : World) (h0 : 0 ≤ p) (hp : p ≤ s.size) (hs : s.size ≤ 128) : Calls Try.prog 51 #[.string s, .int .i64 p, subV L h] w (RetF L w (tailF s p h)) := by
 have HP := aMk (show 0 ≤ p ∧ p ≤ s.size ∧ s.size ≤ 128 from ⟨h0, hp, hs⟩)
 have p5 := eq_true h0
 have hx5 := bt_at s p
 clear h0 hs hp
 have HM := aMk (show tailF s p h = (fracF s p h).map (fun x => expF s x.1 x.2) from rfl)
 obtain ⟨a, ha⟩ : ∃ a, runN s 48 (p + 1) = a := ⟨_, rfl⟩
 obtain ⟨b, hb⟩ : ∃ b, runN s 35 (p + 1 + a) = b := ⟨_, rfl⟩
 have HFR := aMk (show fracF s p h = if bAt s p 46 = true then (if (a + b == 0) = true then none else some (p + 1 + a + b, {h with fn := a, fx := a + b})) else some (p, h) by unfold fracF; rw [ha, hb])
 have HR := aMk (show (bAt s p 46 = true → 0 ≤ a ∧ p + 1 + a ≤ s.size ∧ 0 ≤ b ∧ p + 1 + a + b ≤ s.size) ∧ 0 ≤ a ∧ 0 ≤ b ∧ a ≤ 128 ∧ b ≤ 128 by
  have r1 := runN_pos s 48 (p + 1)
  have r2 := runN_pos s 35 (p + 1 + a)
  have q1 := runF_range s 48 ((s.size : Int) - (p + 1)).toNat (p + 1)
  have q2 := runF_range s 35 ((s.size : Int) - (p + 1 + a)).toNat (p + 1 + a)
  change 0 ≤ runN s 48 (p + 1) ∧ (p + 1 ≤ (s.size : Int) → p + 1 + runN s 48 (p + 1) ≤ (s.size : Int)) at q1
  change 0 ≤ runN s 35 (p + 1 + a) ∧ (p + 1 + a ≤ (s.size : Int) → p + 1 + a + runN s 35 (p + 1 + a) ≤ (s.size : Int)) at q2
  rw [ha] at q1
  rw [hb] at q2
  have hz := HP.out
  have hz1 : ¬ p + 1 ≤ (s.size : Int) → a = 0 := fun hn => by
   rw [← ha]; unfold runN; rw [show ((s.size : Int) - (p + 1)).toNat = 0 by omega]; rfl
  have hz2 : ¬ p + 1 + a ≤ (s.size : Int) → b = 0 := fun hn => by
   rw [← hb]; unfold runN; rw [show ((s.size : Int) - (p + 1 + a)).toNat = 0 by omega]; rfl
  have hbn : ∀ c : Int, bAt s p c = true → p + 1 ≤ s.size := fun c e => bAt_in e
  exact ⟨fun e => by have := hbn _ e; omega, by omega, by omega, by omega, by omega⟩)
 have wr1 : IntKind.i64.wrap (p + 1) = p + 1 := IntWalk.i64_in _ (by have := HP.out; omega)
 have wr2 : IntKind.i64.wrap (p + 1 + a) = p + 1 + a := IntWalk.i64_in _ (by have := HP.out; have := HR.out.2; omega)
 have wr3 : IntKind.i64.wrap (a + b) = a + b := IntWalk.i64_in _ (by have := HR.out.2; omega)
 have wr4 : IntKind.i64.wrap (1 + (a + b)) = 1 + (a + b) := IntWalk.i64_in _ (by have := HR.out.2; omega)
 have wr5 : IntKind.i64.wrap (p + (1 + (a + b))) = p + (1 + (a + b)) := IntWalk.i64_in _ (by have := HP.out; have := HR.out.2; omega)
 have HA := aMk ha
 have HB := aMk hb
 clear ha hb
 go_enter Try.func51, Try.ntmps51
 go_upto_region 1 with (first | ((with_reducible refine gate_dst (N := 5) rfl ?_); refine box_event ?hg (N := 5) ?hd (cs := subC L h) (t := 24) ?hr ?_; (case hd => rfl); (case hg => rfl); (case hr => first | (go_simp; done) | (go_simp; rfl)); intro gb hgb w1 hbox hbb; subst hgb; have HQ : Aside0 (HW w w1 L h) := ⟨⟨hbox, hbb⟩⟩; clear hbox hbb) | ((with_reducible refine gate_dst (N := 6) rfl ?_); refine box_event ?hg (N := 6) ?hd (cs := subC Lz zeroSb2) (t := 24) ?hr ?_; (case hd => rfl); (case hg => rfl); (case hr => first | (go_simp; done) | (go_simp; rfl)); intro g hgb w2 hbox hbb; have HF : Aside0 (FW w w2 g L h) := ⟨⟨blk_below HQ.out.box hbb, hbox, below_step HQ.out.below hbb, by have := blk_lt HQ.out.box; omega⟩⟩; clear hbox hbb hgb HQ))
 rename_i K hK
 go_cut [20] (fun v wc => v = .bool (bAt s p 46) ∧ Aside0 (FW w wc g L h))
 case first =>
  rcases bAt_parts (s := s) (p := p) (b := 46) with ⟨k1, c3b, c3⟩ | ⟨k1, c3, c6⟩ | ⟨k1, c3, c6⟩
  ·have c5 := c3b
   clear c3
   go_wp2
   go_meet
   case rel => exact ⟨by rw [k1], HF⟩
  ·have q5 := eq_true c3
   have c3b := dTr c3
   clear c3
   go_wp2
   go_meet
   case rel => exact ⟨by rw [k1], HF⟩
  ·have q5 := eq_true c3
   have c3b := dTr c3
   clear c3
   go_wp2
   go_meet
   case rel => exact ⟨by rw [k1], HF⟩
 case rest =>
  obtain ⟨w3, rfl⟩ : ∃ w3 : World, w3 = wc := ⟨_, rfl⟩
  obtain ⟨rfl, HF'⟩ := hcut
  clear HF
  have HF := HF'
  clear HF'
  refine hK _ _ ?_
  clear hK K
  cases hfr : fracF s p h with
  | none =>
   have HM2 := aMk (show tailF s p h = none by rw [HM.out, hfr]; rfl)
   rw [HM2.out]
   have k1 : bAt s p 46 = true := by
    cases k : bAt s p 46 with
    | true => rfl
    | false => rw [HFR.out, if_neg (by rw [k]; decide)] at hfr; exact absurd hfr (by simp)
   have k2 : (a + b == 0) = true := by
    cases k : (a + b == 0) with
    | true => rfl
    | false => rw [HFR.out, if_pos k1, if_neg (by rw [k]; decide)] at hfr; exact absurd hfr (by simp)
   rw [k1]
   have x3 : World.cell? _ ⟨w.heap.size, 3, none⟩ = some (.int .i64 h.fn) := (blk_cell HF.out.box 3).trans rfl; have z3 := blk_frozen HF.out.box 3; have x4 : World.cell? _ ⟨w.heap.size, 4, none⟩ = some (.int .i64 h.fx) := (blk_cell HF.out.box 4).trans rfl; have z4 := blk_frozen HF.out.box 4
   go_wp2_with (first | (go_at_call 74; (with_reducible refine (rrun_calls s 48 (p + 1) _ (by have := HP.out; omega) (aP136) (aP136)).mono ?_); rw [HA.out]; rintro e w3 ⟨rfl, hb⟩; have nf := aMk (HF.out.step hb); clear HF hb; have HF := nf; clear nf; have x3 : World.cell? _ ⟨w.heap.size, 3, none⟩ = some (.int .i64 h.fn) := (blk_cell HF.out.box 3).trans rfl; have z3 := blk_frozen HF.out.box 3; have x4 : World.cell? _ ⟨w.heap.size, 4, none⟩ = some (.int .i64 h.fx) := (blk_cell HF.out.box 4).trans rfl; have z4 := blk_frozen HF.out.box 4))
   have HG := aMk (HF.out.put (y := {h with fn := a}) 3 (.int .i64 a) rfl)
   go_region_held3 (fun w' => w'.cell? ⟨w.heap.size, 3, none⟩ = some (.int .i64 a)) (first | exact (blk_cell HG.out.box 3).trans rfl | exact (blk_cell HG.out.drew1.box 3).trans rfl | exact (blk_cell (HG.out.put (y := {h with fn := a, fx := a + b}) 4 (.int .i64 (a + b)) rfl).box 3).trans rfl | exact (blk_cell (HG.out.put (y := {h with fn := a, fx := a + b}) 4 (.int .i64 (a + b)) rfl).drew1.box 3).trans rfl) (first | (go_at_call 74; (with_reducible refine (rrun_calls s 35 (p + 1 + a) _ (by have := HP.out; omega) (aP136) (aP136)).mono ?_); rw [HB.out]; rintro e w3 ⟨rfl, hb⟩; have nf := aMk ((by first | exact HG.out | exact HG.out.drew1 | exact HG.out.drewN _ : FW w _ g L {h with fn := a}).step hb); clear HG hb; have HG := nf; clear nf; have x4 : World.cell? _ ⟨w.heap.size, 4, none⟩ = some (.int .i64 h.fx) := (blk_cell HG.out.box 4).trans rfl; have z4 := blk_frozen HG.out.box 4))
   have HG2 : Aside0 (FW w _ g L {h with fn := a, fx := a + b}) := ⟨(HG.out.put (y := {h with fn := a, fx := a + b}) 4 (.int .i64 (a + b)) rfl)⟩; have x4 : World.cell? _ ⟨w.heap.size, 4, none⟩ = some (.int .i64 (a + b)) := (blk_cell HG2.out.box 4).trans rfl; have z4 := blk_frozen HG2.out.box 4
   go_wp2_with (first | ((with_reducible refine gate_dst (N := 40) rfl ?_); refine wpList_load_row rfl 24 (.tmp 5) rfl w.heap.size rfl 24 (subC L {h with fn := a, fx := a + b}) (0, 0) _ HG2.out.box Try.underlying24 rfl info24 ?_) | ((with_reducible refine gate_store (t := 24) (p := 6) rfl ?_); refine wpList_store_row rfl 24 (.tmp 6) (.tmp 40) rfl g (subC L {h with fn := a, fx := a + b}) rfl rfl 24 (subC Lz zeroSb2) HG2.out.res info24 rfl (by simp [Value.oneCell']) ?_))
   exact bodyPost_ret (results_ctt results51 _ _ g 24 (subC L {h with fn := a, fx := a + b}) (0, 0) _ rfl (setRow_heap _ _ _ _ _ _ HG2.out.res) Try.underlying24 rfl info24) rfl ⟨HG2.out.fin _, _, _, rfl⟩
  | some y =>
   have HY := aMk (show 0 ≤ y.1 ∧ y.1 ≤ s.size by
    rw [HFR.out] at hfr
    have h1 := HP.out
    have h2 := HR.out
    split at hfr
    ·rename_i e
     split at hfr
     ·exact absurd hfr (by simp)
     ·obtain rfl := Option.some.inj hfr
      have := h2.1 e
      show 0 ≤ p + 1 + a + b ∧ p + 1 + a + b ≤ s.size
      omega
    ·obtain rfl := Option.some.inj hfr
     show 0 ≤ p ∧ p ≤ s.size
     omega)
   have HM2 := aMk (show tailF s p h = some (expF s y.1 y.2) by rw [HM.out, hfr]; rfl)
   clear HM
   go_upto_if 20 with (fail)
   rename_i K hK
   go_cut [1] (fun v wc => v = .int .i64 y.1 ∧ Aside0 (FW w wc g L y.2))
   case first =>
    cases k1 : bAt s p 46 with
    | false =>
     rw [HFR.out, if_neg (by rw [k1]; decide)] at hfr
     obtain rfl := Option.some.inj hfr
     go_wp2
     go_meet
     case rel => exact ⟨rfl, HF⟩
    | true =>
     cases k2 : (a + b == 0) with
     | true => rw [HFR.out, if_pos k1, if_pos k2] at hfr; exact absurd hfr (by simp)
     | false =>
      rw [HFR.out, if_pos k1, if_neg (by rw [k2]; decide)] at hfr
      obtain rfl := Option.some.inj hfr
      have x3 : World.cell? _ ⟨w.heap.size, 3, none⟩ = some (.int .i64 h.fn) := (blk_cell HF.out.box 3).trans rfl; have z3 := blk_frozen HF.out.box 3; have x4 : World.cell? _ ⟨w.heap.size, 4, none⟩ = some (.int .i64 h.fx) := (blk_cell HF.out.box 4).trans rfl; have z4 := blk_frozen HF.out.box 4
      go_wp2_with (first | (go_at_call 74; (with_reducible refine (rrun_calls s 48 (p + 1) _ (by have := HP.out; omega) (aP136) (aP136)).mono ?_); rw [HA.out]; rintro e w3 ⟨rfl, hb⟩; have nf := aMk (HF.out.step hb); clear HF hb; have HF := nf; clear nf; have x3 : World.cell? _ ⟨w.heap.size, 3, none⟩ = some (.int .i64 h.fn) := (blk_cell HF.out.box 3).trans rfl; have z3 := blk_frozen HF.out.box 3; have x4 : World.cell? _ ⟨w.heap.size, 4, none⟩ = some (.int .i64 h.fx) := (blk_cell HF.out.box 4).trans rfl; have z4 := blk_frozen HF.out.box 4))
      have HG := aMk (HF.out.put (y := {h with fn := a}) 3 (.int .i64 a) rfl)
      go_region_held3 (fun w' => w'.cell? ⟨w.heap.size, 3, none⟩ = some (.int .i64 a)) (first | exact (blk_cell HG.out.box 3).trans rfl | exact (blk_cell HG.out.drew1.box 3).trans rfl | exact (blk_cell (HG.out.put (y := {h with fn := a, fx := a + b}) 4 (.int .i64 (a + b)) rfl).box 3).trans rfl | exact (blk_cell (HG.out.put (y := {h with fn := a, fx := a + b}) 4 (.int .i64 (a + b)) rfl).drew1.box 3).trans rfl) (first | (go_at_call 74; (with_reducible refine (rrun_calls s 35 (p + 1 + a) _ (by have := HP.out; omega) (aP136) (aP136)).mono ?_); rw [HB.out]; rintro e w3 ⟨rfl, hb⟩; have nf := aMk ((by first | exact HG.out | exact HG.out.drew1 | exact HG.out.drewN _ : FW w _ g L {h with fn := a}).step hb); clear HG hb; have HG := nf; clear nf; have x4 : World.cell? _ ⟨w.heap.size, 4, none⟩ = some (.int .i64 h.fx) := (blk_cell HG.out.box 4).trans rfl; have z4 := blk_frozen HG.out.box 4))
      have HG2 : Aside0 (FW w _ g L {h with fn := a, fx := a + b}) := ⟨(HG.out.put (y := {h with fn := a, fx := a + b}) 4 (.int .i64 (a + b)) rfl)⟩; have x4 : World.cell? _ ⟨w.heap.size, 4, none⟩ = some (.int .i64 (a + b)) := (blk_cell HG2.out.box 4).trans rfl; have z4 := blk_frozen HG2.out.box 4
      go_wp2
      go_meet
      case rel => exact ⟨by show Value.int .i64 _ = Value.int .i64 _; congr 1; show p + (1 + (a + b)) = p + 1 + a + b; omega, HG2⟩
   case rest =>
    obtain ⟨w4, rfl⟩ : ∃ w4 : World, w4 = wc := ⟨_, rfl⟩
    obtain ⟨rfl, HF'⟩ := hcut
    clear HF
    have HF := HF'
    clear HF'
    refine hK _ _ ?_
    clear hK K hfr HFR HA HB wr1 wr2 wr3 wr4 wr5 HR
    clear hx5 p5
    obtain ⟨q, h2⟩ := y
    replace HY : Aside0 (0 ≤ q ∧ q ≤ s.size) := HY
    show Code.wp _ _ _ _ _
    go_upto_region 7 with (fail)
    rename_i K hK
    go_cut [56] (fun v wc => v = .bool (bAt s q 69) ∧ Aside0 (FW w wc g L h2))
    case first =>
     have p5 := eq_true HY.out.1
     have hx5 := bt_at s q
     rcases bAt_parts (s := s) (p := q) (b := 69) with ⟨k1, c3b, c3⟩ | ⟨k1, c3, c6⟩ | ⟨k1, c3, c6⟩
     ·clear c3
      go_wp2
      go_meet
      case rel => exact ⟨by rw [k1], HF⟩
     ·have q5 := eq_true c3
      have c3b := dTr c3
      clear c3
      go_wp2
      go_meet
      case rel => exact ⟨by rw [k1], HF⟩
     ·have q5 := eq_true c3
      have c3b := dTr c3
      clear c3
      go_wp2
      go_meet
      case rel => exact ⟨by rw [k1], HF⟩
    case rest =>
     obtain ⟨w5, rfl⟩ : ∃ w5 : World, w5 = wc := ⟨_, rfl⟩
     obtain ⟨rfl, HF'⟩ := hcut
     clear HF
     have HF := HF'
     clear HF'
     refine hK _ _ ?_
     clear hK K
     obtain ⟨c, hc⟩ : ∃ c, runN s 43 (q + 1) = c := ⟨_, rfl⟩
     obtain ⟨d, hd⟩ : ∃ d, runN s 48 (q + 1 + c) = d := ⟨_, rfl⟩
     have HD := aMk (exp_doc s q h2 c d HY.out.1 hc hd)
     have HR2 := aMk (show 0 ≤ c ∧ c ≤ 128 ∧ 0 ≤ d ∧ d ≤ 128 by
      have r1 := (runN_pos s 43 (q + 1)).1
      have r2 := (runN_pos s 48 (q + 1 + c)).1
      have q1 := runF_range s 43 ((s.size : Int) - (q + 1)).toNat (q + 1)
      have q2 := runF_range s 48 ((s.size : Int) - (q + 1 + c)).toNat (q + 1 + c)
      change 0 ≤ runN s 43 (q + 1) ∧ (q + 1 ≤ (s.size : Int) → q + 1 + runN s 43 (q + 1) ≤ (s.size : Int)) at q1
      change 0 ≤ runN s 48 (q + 1 + c) ∧ (q + 1 + c ≤ (s.size : Int) → q + 1 + c + runN s 48 (q + 1 + c) ≤ (s.size : Int)) at q2
      rw [hc] at q1 r1
      rw [hd] at q2 r2
      have hz := HP.out
      have hy := HY.out
      have hz1 : ¬ q + 1 ≤ (s.size : Int) → c = 0 := fun hn => by
       rw [← hc]; unfold runN; rw [show ((s.size : Int) - (q + 1)).toNat = 0 by omega]; rfl
      have hz2 : ¬ q + 1 + c ≤ (s.size : Int) → d = 0 := fun hn => by
       rw [← hd]; unfold runN; rw [show ((s.size : Int) - (q + 1 + c)).toNat = 0 by omega]; rfl
      omega)
     have HC := aMk hc
     have HDD := aMk hd
     clear hc hd
     have wr1 : IntKind.i64.wrap (q + 1) = q + 1 := IntWalk.i64_in _ (by have := HY.out; have := HP.out; omega)
     have wr2 : IntKind.i64.wrap (q + 1 + c) = q + 1 + c := IntWalk.i64_in _ (by have := HY.out; have := HP.out; have := HR2.out; omega)
     have wr3 : IntKind.i64.wrap (1 + c) = 1 + c := IntWalk.i64_in _ (by have := HR2.out; omega)
     have wr4 : IntKind.i64.wrap (1 + c + d) = 1 + c + d := IntWalk.i64_in _ (by have := HR2.out; omega)
     have wr5 : IntKind.i64.wrap (q + (1 + c + d)) = q + (1 + c + d) := IntWalk.i64_in _ (by have := HY.out; have := HP.out; have := HR2.out; omega)
     show Code.wp _ _ _ _ _
     cases k1 : bAt s q 69 with
     | false =>
      have HE2 := aMk (show expF s (q, h2).1 (q, h2).2 = (q, h2) from HD.out.1 k1)
      go_wp2_with (first | ((with_reducible refine gate_dst (N := 84) rfl ?_); refine wpList_load_row rfl 24 (.tmp 5) rfl w.heap.size rfl 24 (subC L h2) (0, 0) _ HF.out.box Try.underlying24 rfl info24 ?_) | ((with_reducible refine gate_store (t := 24) (p := 6) rfl ?_); refine wpList_store_row rfl 24 (.tmp 6) (.tmp 84) rfl g (subC L h2) rfl rfl 24 (subC Lz zeroSb2) HF.out.res info24 rfl (by simp [Value.oneCell']) ?_))
      exact aP64
     | true =>
      cases k2 : decide (c ≤ 1) with
      | false =>
       have HE2 := aMk (show expF s (q, h2).1 (q, h2).2 = (q, h2) from HD.out.2.1 (by rw [k2]; rfl))
       exact aP63
      | true =>
       cases k3 : decide (0 < d) with
       | false =>
        have HE2 := aMk (show expF s (q, h2).1 (q, h2).2 = (q, h2) from HD.out.2.1 (by rw [k2, k3]; rfl))
        exact aP63
       | true =>
        have HE2 := aMk (show expF s (q, h2).1 (q, h2).2 = (q + (1 + c + d), {h2 with ep := c == 1, em := d}) from HD.out.2.2 k1 (by rw [k2, k3]; rfl))
        go_wp2_with (first | (go_at_call 74; (with_reducible refine (rrun_calls s 43 (q + 1) _ (by have := HP.out; omega) (aP139) (aP139)).mono ?_); rw [HC.out]; rintro e w6 ⟨rfl, hb⟩; have nf := aMk (HF.out.step hb); clear HF hb; have HF := nf; clear nf) | (go_at_call 74; (with_reducible refine (rrun_calls s 48 (q + 1 + c) _ (by have := HP.out; omega) (aP139) (aP139)).mono ?_); rw [HDD.out]; rintro e w6 ⟨rfl, hb⟩; have nf := aMk (HF.out.step hb); clear HF hb; have HF := nf; clear nf; have x8 : World.cell? _ ⟨w.heap.size, 8, none⟩ = some (.bool h2.ep) := (blk_cell HF.out.box 8).trans rfl; have z8 := blk_frozen HF.out.box 8; have x7 : World.cell? _ ⟨w.heap.size, 7, none⟩ = some (.int .i64 h2.em) := (blk_cell HF.out.box 7).trans rfl; have z7 := blk_frozen HF.out.box 7) | ((with_reducible refine gate_dst (N := 84) rfl ?_); refine wpList_load_row rfl 24 (.tmp 5) rfl w.heap.size rfl 24 (subC L {h2 with ep := c == 1, em := d}) (0, 0) _ ((HF.out.put (y := {h2 with ep := c == 1}) 8 (.bool (c == 1)) rfl).put (y := {h2 with ep := c == 1, em := d}) 7 (.int .i64 d) rfl).box Try.underlying24 rfl info24 ?_) | ((with_reducible refine gate_store (t := 24) (p := 6) rfl ?_); refine wpList_store_row rfl 24 (.tmp 6) (.tmp 84) rfl g (subC L {h2 with ep := c == 1, em := d}) rfl rfl 24 (subC Lz zeroSb2) ((HF.out.put (y := {h2 with ep := c == 1}) 8 (.bool (c == 1)) rfl).put (y := {h2 with ep := c == 1, em := d}) 7 (.int .i64 d) rfl).res info24 rfl (by simp [Value.oneCell']) ?_))
        exact bodyPost_ret (results_ctt results51 _ _ g 24 (subC L {h2 with ep := c == 1, em := d}) (0, 0) _ rfl (setRow_heap _ _ _ _ _ _ ((HF.out.put (y := {h2 with ep := c == 1}) 8 (.bool (c == 1)) rfl).put (y := {h2 with ep := c == 1, em := d}) 7 (.int .i64 d) rfl).res) Try.underlying24 rfl info24) rfl (retF_some (HM2.out.trans (congrArg some HE2.out)) (((HF.out.put (y := {h2 with ep := c == 1}) 8 (.bool (c == 1)) rfl).put (y := {h2 with ep := c == 1, em := d}) 7 (.int .i64 d) rfl).fin _))
end Go.Proofs.Ytacnjemndfmbhaa.Q
end
section
namespace Go.Proofs.Ytacnjemndfmbhaa.Q
open Go.RowKit Go.Proofs.Ytacnjemndfmbhaa.A Go.Proofs.Ytacnjemndfmbhaa.R1 Go.Proofs.YtacnjemndfmbhaaW.PrintWords Go.Proofs.YtacnjemndfmbhaaW.PrintLast Go.Proofs.YtacnjemndfmbhaaW.PrintMore
set_option linter.unusedVariables false
set_option linter.unusedSimpArgs false
def plC (b : Int) : Bool := b == 35 || b == 48 || b == 44
def endF (s : ByteArray) : Nat → Int → Int
 | 0, p => p
 | d + 1, p => if plC (bt s p) = true then endF s d (p + 1) else p
theorem endF_range (s : ByteArray) : ∀ (d : Nat) (p : Int), p ≤ endF s d p ∧ endF s d p ≤ p + d
 | 0, p => by simp [endF]
 | d + 1, p => by
  have := endF_range s d (p + 1)
  unfold endF
  split <;> omega
def rowF (r : ByteArray) : Nat → Int → List Int → ByteArray → List Int × ByteArray
 | 0, _, C, B => (C, B)
 | d + 1, i, C, B => if bt r i = 44 then rowF r d (i + 1) (C ++ [(B.size : Int)]) B else rowF r d (i + 1) C (B ++ r.extract i.toNat (i + 1).toNat)
theorem rd_left (C D : List Int) (i : Nat) (h : i < C.length) : rd (C ++ D) i = rd C i := by
 unfold rd
 rw [Int.toNat_natCast, List.getD_eq_getElem?_getD, List.getD_eq_getElem?_getD, List.getElem?_append_left h]
theorem rd_last (C : List Int) (x : Int) : rd (C ++ [x]) C.length = x := by
 unfold rd
 rw [Int.toNat_natCast, List.getD_eq_getElem?_getD, List.getElem?_append_right (Nat.le_refl _)]
 simp
theorem rd_set_other (G : List Int) (j i : Nat) (x : Int) (h : i ≠ j) : rd (G.set j x) i = rd G i := by
 unfold rd
 rw [Int.toNat_natCast, List.getD_eq_getElem?_getD, List.getD_eq_getElem?_getD, List.getElem?_set_ne (by omega)]
def pv (C : List Int) (i : Nat) : Int := if i = 0 then 0 else rd C ((i : Int) - 1)
theorem pv_left (C D : List Int) (i : Nat) (h : i ≤ C.length) : pv (C ++ D) i = pv C i := by
 unfold pv
 split
 ·rfl
 ·rw [show (i : Int) - 1 = ((i - 1 : Nat) : Int) by omega]
  exact rd_left C D _ (by omega)
def badC (C : List Int) : Prop := ∃ i : Nat, i < C.length ∧ (rd C i = 0 ∨ (0 < i ∧ rd C i = rd C ((i : Int) - 1)))
def badB (B : ByteArray) : Prop := ∃ i j : Int, 0 ≤ i ∧ i < j ∧ j < B.size ∧ bt B i = 48 ∧ bt B j = 35
theorem badC_app {C : List Int} (D : List Int) (h : badC C) : badC (C ++ D) := by
 obtain ⟨i, h1, h2⟩ := h
 refine ⟨i, by simp; omega, ?_⟩
 rw [rd_left C D i h1]
 rcases h2 with h2 | ⟨h2, h3⟩
 ·exact .inl h2
 ·refine .inr ⟨h2, ?_⟩
  rw [show (i : Int) - 1 = ((i - 1 : Nat) : Int) by omega] at h3 ⊢
  rw [rd_left C D _ (by omega)]
  exact h3
theorem badB_app {B : ByteArray} (X : ByteArray) (h : badB B) : badB (B ++ X) := by
 obtain ⟨i, j, h1, h2, h3, h4, h5⟩ := h
 exact ⟨i, j, h1, h2, by rw [size_app]; omega, by rw [bt_app_left _ _ _ h1 (by omega)]; exact h4, by rw [bt_app_left _ _ _ (by omega) h3]; exact h5⟩
theorem bad_row (r : ByteArray) : ∀ (d : Nat) (i : Int) (C : List Int) (B : ByteArray), badC C ∨ badB B → badC (rowF r d i C B).1 ∨ badB (rowF r d i C B).2
 | 0, i, C, B, h => h
 | d + 1, i, C, B, h => by
  unfold rowF
  split
  ·exact bad_row r d _ _ _ (h.imp (badC_app _) id)
  ·exact bad_row r d _ _ _ (h.imp id (badB_app _))
structure InvG (G : List Int) (z : Int) (C : List Int) (B : ByteArray) : Prop where
 a : ∃ a : Int, 0 ≤ a ∧ a + z = B.size ∧ 0 ≤ z ∧ (∀ i : Int, 0 ≤ i → i < a → bt B i = 35) ∧ (∀ i : Int, a ≤ i → i < B.size → bt B i = 48)
 l : G.length = C.length + 1
 t : rd G C.length = B.size - pv C C.length
 g : ∀ i : Nat, i < C.length → rd G i = rd C i - pv C i ∧ 0 < rd G i
 n : 0 ≤ rd G C.length
theorem InvG.last {G : List Int} {z : Int} {C : List Int} {B : ByteArray} (h : InvG G z C B) : lastG G = rd G C.length := by
 unfold lastG
 rw [h.l, show ((C.length + 1 : Nat) : Int) - 1 = C.length by omega]
theorem InvG.put {G : List Int} {z : Int} {C : List Int} {B X : ByteArray} (h : InvG G z C B) (hX : (X.size : Int) = 1) (z' : Int) (hz : (bt X 0 = 35 ∧ z = 0 ∧ z' = 0) ∨ (bt X 0 = 48 ∧ z' = z + 1)) : InvG (bump G) z' C (B ++ X) := by
 have hl := h.last
 have hs := size_app B X
 have hb : rd (bump G) C.length = rd G C.length + 1 := by
  unfold bump
  rw [hl, show G.length - 1 = C.length by have := h.l; omega]
  unfold rd
  rw [Int.toNat_natCast, List.getD_eq_getElem?_getD, List.getElem?_set_self (by have := h.l; omega)]
  rfl
 have ho : ∀ i : Nat, i < C.length → rd (bump G) i = rd G i := fun i hi => by
  unfold bump
  exact rd_set_other _ _ _ _ (by have := h.l; omega)
 have hx := bt_app_right B X 0 (Int.le_refl _)
 rw [Int.add_zero] at hx
 obtain ⟨a, a0, a1, a2, a3, a4⟩ := h.a
 refine ⟨?_, by rw [bump_len]; exact h.l, by rw [hb, h.t, hs]; omega, fun i hi => by rw [ho i hi]; exact h.g i hi, by rw [hb]; have := h.n; omega⟩
 rcases hz with ⟨e1, e2, e3⟩ | ⟨e1, e2⟩
 ·refine ⟨a + 1, by omega, by omega, by omega, fun i i0 i1 => ?_, fun i i0 i1 => by omega⟩
  rcases Int.lt_or_le i a with h1 | h1
  ·rw [bt_app_left _ _ _ i0 (by omega)]; exact a3 i i0 h1
  ·have : i = B.size := by omega
   rw [this, hx]; exact e1
 ·refine ⟨a, a0, by omega, by omega, fun i i0 i1 => by rw [bt_app_left _ _ _ i0 (by omega)]; exact a3 i i0 i1, fun i i0 i1 => ?_⟩
  rcases Int.lt_or_le i B.size with h1 | h1
  ·rw [bt_app_left _ _ _ (by omega) h1]; exact a4 i i0 h1
  ·have : i = B.size := by omega
   rw [this, hx]; exact e1
theorem InvG.comma {G : List Int} {z : Int} {C : List Int} {B : ByteArray} (h : InvG G z C B) (hn : lastG G ≠ 0) : InvG (G ++ [0]) z (C ++ [(B.size : Int)]) B := by
 have hl := h.last
 have hlen : (C ++ [(B.size : Int)]).length = C.length + 1 := by simp
 have hG := rd_last G 0
 rw [h.l] at hG
 have hp : pv (C ++ [(B.size : Int)]) (C.length + 1) = B.size := by
  unfold pv
  rw [if_neg (by omega), show ((C.length + 1 : Nat) : Int) - 1 = C.length by omega]
  exact rd_last _ _
 refine ⟨h.a, by simp [h.l], by rw [hlen, hG, hp]; omega, fun i hi => ?_, by rw [hlen, hG]; exact Int.le_refl _⟩
 rw [hlen] at hi
 rw [rd_left G [0] i (by have := h.l; omega), pv_left C _ i (by omega)]
 rcases Nat.lt_or_ge i C.length with h1 | h1
 ·rw [rd_left C _ i h1]; exact h.g i h1
 ·have : i = C.length := by omega
  subst this
  rw [rd_last]
  exact ⟨h.t, by have := h.n; omega⟩
theorem pl_row (s : ByteArray) (p0 e : Int) (r : ByteArray) (h0 : 0 ≤ p0) (he : e ≤ s.size) (hp0 : p0 ≤ e) (hr : r = s.extract p0.toNat (p0 + (e - p0)).toNat) : ∀ (d : Nat) (p : Int) (G : List Int) (z : Int) (C : List Int) (B : ByteArray), p0 ≤ p → p + d = s.size → endF s d p = e → InvG G z C B →
  match plF s d p G z with
  | some x => x.1 = e ∧ InvG x.2.1 x.2.2 (rowF r (e - p).toNat (p - p0) C B).1 (rowF r (e - p).toNat (p - p0) C B).2
  | none => badC (rowF r (e - p).toNat (p - p0) C B).1 ∨ badB (rowF r (e - p).toNat (p - p0) C B).2
 | 0, p, G, z, C, B, h1, h2, h3, hi => by
  simp only [endF] at h3
  subst h3
  simp only [plF, Int.sub_self]
  exact ⟨trivial, hi⟩
 | d + 1, p, G, z, C, B, h1, h2, h3, hi => by
  simp only [endF] at h3
  by_cases hc : plC (bt s p) = true
  ·rw [if_pos hc] at h3
   have hpe := endF_range s d (p + 1)
   have hrb : bt r (p - p0) = bt s p := by
    rw [hr, bt_cut s p0 (e - p0) (p - p0) h0 (by omega) (by omega) (by omega), show p0 + (p - p0) = p by omega]
   have hX : ((r.extract (p - p0).toNat (p - p0 + 1).toNat).size : Int) = 1 := size_cut r _ 1 (by omega) (by omega) (by rw [hr, size_cut s p0 _ h0 (by omega) (by omega)]; omega)
   have hX0 : bt (r.extract (p - p0).toNat (p - p0 + 1).toNat) 0 = bt s p := by
    rw [bt_cut r _ 1 0 (by omega) (by omega) (by omega) (by rw [hr, size_cut s p0 _ h0 (by omega) (by omega)]; omega), Int.add_zero, hrb]
   have hrow : rowF r (e - p).toNat (p - p0) C B = if bt s p = 44 then rowF r (e - (p + 1)).toNat (p + 1 - p0) (C ++ [(B.size : Int)]) B else rowF r (e - (p + 1)).toNat (p + 1 - p0) C (B ++ r.extract (p - p0).toNat (p - p0 + 1).toNat) := by
    rw [show (e - p).toNat = (e - (p + 1)).toNat + 1 by omega]
    simp only [rowF]
    rw [hrb, show p - p0 + 1 = p + 1 - p0 by omega]
   rw [hrow]
   unfold plF
   by_cases b35 : bt s p = 35
   ·have n44 : ¬ bt s p = 44 := by omega
    rw [if_pos b35, if_neg n44]
    by_cases hz : 0 < z
    ·rw [if_pos hz]
     refine bad_row r _ _ _ _ (.inr ?_)
     obtain ⟨a, a0, a1, a2, a3, a4⟩ := hi.a
     have hs := size_app B (r.extract (p - p0).toNat (p - p0 + 1).toNat)
     have hx := bt_app_right B (r.extract (p - p0).toNat (p - p0 + 1).toNat) 0 (Int.le_refl _)
     rw [Int.add_zero] at hx
     exact ⟨a, B.size, a0, by omega, by omega, by rw [bt_app_left _ _ _ a0 (by omega)]; exact a4 a (Int.le_refl _) (by omega), by rw [hx, hX0]; exact b35⟩
    ·rw [if_neg hz]
     exact pl_row s p0 e r h0 he hp0 hr d (p + 1) (bump G) z C _ (by omega) (by omega) h3 (hi.put hX z (.inl ⟨by rw [hX0]; exact b35, by obtain ⟨a, a0, a1, a2, _⟩ := hi.a; omega, by obtain ⟨a, a0, a1, a2, _⟩ := hi.a; omega⟩))
   ·rw [if_neg b35]
    by_cases b48 : bt s p = 48
    ·have n44 : ¬ bt s p = 44 := by omega
     rw [if_pos b48, if_neg n44]
     exact pl_row s p0 e r h0 he hp0 hr d (p + 1) (bump G) (z + 1) C _ (by omega) (by omega) h3 (hi.put hX (z + 1) (.inr ⟨by rw [hX0]; exact b48, rfl⟩))
    ·rw [if_neg b48]
     have b44 : bt s p = 44 := by
      unfold plC at hc
      simp only [Bool.or_eq_true, beq_iff_eq] at hc
      omega
     rw [if_pos b44, if_pos b44]
     by_cases hg : lastG G = 0
     ·rw [if_pos hg]
      refine bad_row r _ _ _ _ (.inl ⟨C.length, by simp, ?_⟩)
      rw [rd_last]
      have ht := hi.t
      rw [← hi.last, hg] at ht
      unfold pv at ht
      split at ht
      ·exact .inl (by omega)
      ·refine .inr ⟨by omega, ?_⟩
       rw [show (C.length : Int) - 1 = ((C.length - 1 : Nat) : Int) by omega] at ht ⊢
       rw [rd_left C _ _ (by omega)]
       omega
     ·rw [if_neg hg]
      exact pl_row s p0 e r h0 he hp0 hr d (p + 1) (G ++ [0]) z _ B (by omega) (by omega) h3 (hi.comma hg)
  ·rw [if_neg hc] at h3
   subst h3
   unfold plC at hc
   simp only [Bool.or_eq_true, beq_iff_eq, not_or] at hc
   unfold plF
   rw [if_neg hc.1.1, if_neg hc.1.2, if_neg hc.2]
   simp only [Int.sub_self]
   exact ⟨trivial, hi⟩
theorem run_all (s : ByteArray) (b : Int) : ∀ (d : Nat) (p i : Int), p ≤ i → i < p + runF s b d p → bt s i = b
 | 0, p, i, h1, h2 => by simp [runF] at h2; omega
 | d + 1, p, i, h1, h2 => by
  unfold runF at h2
  by_cases h : bAt s p b = true
  ·rw [if_pos h] at h2
   rcases Int.lt_or_eq_of_le h1 with h3 | h3
   ·exact run_all s b d (p + 1) i (by omega) (by omega)
   ·subst h3
    unfold bAt at h
    simp only [Bool.and_eq_true, beq_iff_eq] at h
    exact h.2
  ·rw [if_neg h] at h2
   omega
theorem run_shape (s : ByteArray) (b : Int) : ∀ (d : Nat) (p q : Int), q = p + d → q ≤ s.size → (∀ i, p ≤ i → i < q → bt s i = b) → (q = s.size ∨ bt s q ≠ b) → runN s b p = d
 | 0, p, q, h1, h2, h3, h4 => by
  rw [runN_step, if_neg]
  ·rfl
  ·have : q = p := by omega
   subst this
   unfold bAt
   simp only [Bool.and_eq_true, decide_eq_true_eq, beq_iff_eq]
   rintro ⟨e1, e2⟩
   rcases h4 with h4 | h4
   ·omega
   ·exact h4 e2
 | d + 1, p, q, h1, h2, h3, h4 => by
  rw [runN_step, if_pos]
  ·rw [run_shape s b d (p + 1) q (by omega) h2 (fun i i0 i1 => h3 i (by omega) i1) h4]
   omega
  ·unfold bAt
   rw [dTr (by omega), h3 p (Int.le_refl _) (by omega)]
   simp
def badAt (C : List Int) (n i : Int) : Bool := rd C i == 0 || (rd C i == n || (decide (0 < i) && rd C i == rd C (i - 1)))
def badF (C : List Int) (n : Int) : Nat → Int → Bool
 | 0, _ => false
 | d + 1, i => badAt C n i || badF C n d (i + 1)
theorem badF_iff (C : List Int) (n : Int) : ∀ (d : Nat) (i : Int), badF C n d i = true ↔ ∃ j : Int, i ≤ j ∧ j < i + d ∧ badAt C n j = true
 | 0, i => by simp [badF]; intro j h1 h2; omega
 | d + 1, i => by
  unfold badF
  rw [Bool.or_eq_true, badF_iff C n d (i + 1)]
  constructor
  ·rintro (h | ⟨j, a, b, c⟩)
   ·exact ⟨i, Int.le_refl _, by omega, h⟩
   ·exact ⟨j, by omega, by omega, c⟩
  ·rintro ⟨j, a, b, c⟩
   rcases Int.lt_or_eq_of_le a with h | h
   ·exact .inr ⟨j, by omega, by omega, c⟩
   ·subst h
    exact .inl c
def zeroN (B : ByteArray) : Int := runN B 48 (runN B 35 0)
def fail1 (C : List Int) (B : ByteArray) : Bool := ((B.size : Int) == 0 || (runN B 35 0 + zeroN B) != (B.size : Int)) || decide (2 < C.length)
def setP (C : List Int) (B : ByteArray) (h : Sb) : Sb := {h with im := zeroN B, pr := if 0 < C.length then (B.size : Int) - rd C ((C.length : Int) - 1) else h.pr, se := if 1 < C.length then rd C 1 - rd C 0 else h.se}
def decP (C : List Int) (B : ByteArray) (h : Sb) : Option Sb := if fail1 C B = true then none else if badF C B.size C.length 0 = true then none else some (setP C B h)
theorem decP_bad {C : List Int} {B : ByteArray} (h : Sb) (hb : badC C ∨ badB B) : decP C B h = none := by
 unfold decP
 rcases hb with ⟨i, h1, h2⟩ | ⟨i, j, h1, h2, h3, h4, h5⟩
 ·split
  ·rfl
  ·rw [if_pos]
   rw [badF_iff]
   refine ⟨i, by omega, by omega, ?_⟩
   unfold badAt
   rcases h2 with h2 | ⟨h2, h3⟩
   ·rw [h2]; rfl
   ·rw [h3, dTr (by omega)]
    simp
 ·rw [if_pos]
  unfold fail1
  have : (runN B 35 0 + zeroN B != (B.size : Int)) = true := by
   rw [bne_iff_ne]
   intro e
   have k1 := run_all B 35 ((B.size : Int) - 0).toNat 0
   have k2 := run_all B 48 ((B.size : Int) - runN B 35 0).toNat (runN B 35 0)
   change ∀ i, 0 ≤ i → i < 0 + runN B 35 0 → bt B i = 35 at k1
   change ∀ i, runN B 35 0 ≤ i → i < runN B 35 0 + zeroN B → bt B i = 48 at k2
   have hi : ¬ i < 0 + runN B 35 0 := fun h => by have := k1 i h1 h; omega
   have := k2 j (by omega) (by omega)
   omega
  rw [this]
  simp
theorem InvG.up {G : List Int} {z : Int} {C : List Int} {B : ByteArray} (h : InvG G z C B) : ∀ i : Nat, i < C.length → 0 < rd C i ∧ pv C i < rd C i
 | 0, hi => by
  have := h.g 0 hi
  unfold pv at this ⊢
  rw [if_pos rfl] at this ⊢
  omega
 | i + 1, hi => by
  have := h.g (i + 1) hi
  have ih := h.up i (by omega)
  have hp : pv C (i + 1) = rd C i := by
   unfold pv
   rw [if_neg (by omega), show ((i + 1 : Nat) : Int) - 1 = i by omega]
  rw [hp] at this ⊢
  omega
theorem InvG.under {G : List Int} {z : Int} {C : List Int} {B : ByteArray} (h : InvG G z C B) (hn : rd G C.length ≠ 0) : ∀ (d i : Nat), i + d + 1 = C.length → rd C i < B.size
 | 0, i, hi => by
  have := h.t
  have h2 := h.n
  unfold pv at this
  rw [if_neg (by omega), show (C.length : Int) - 1 = i by omega] at this
  omega
 | d + 1, i, hi => by
  have ih := h.under hn d (i + 1) (by omega)
  have := (h.up (i + 1) (by omega)).2
  unfold pv at this
  rw [if_neg (by omega), show ((i + 1 : Nat) : Int) - 1 = i by omega] at this
  omega
theorem decP_good {G : List Int} {z : Int} {C : List Int} {B : ByteArray} (h : Sb) (hi : InvG G z C B) : decP C B h = groupF G z h := by
 have hl := hi.last
 have hlen := hi.l
 obtain ⟨a, a0, a1, a2, a3, a4⟩ := hi.a
 have r35 : runN B 35 0 = a := by
  rw [run_shape B 35 a.toNat 0 a (by omega) (by omega) (fun i i0 i1 => a3 i i0 i1) (by
   rcases Int.lt_or_le a B.size with h1 | h1
   ·exact .inr (by rw [a4 a (Int.le_refl _) h1]; decide)
   ·exact .inl (by omega))]
  omega
 have r48 : zeroN B = z := by
  unfold zeroN
  rw [r35, run_shape B 48 z.toNat a B.size (by omega) (Int.le_refl _) (fun i i0 i1 => a4 i i0 i1) (.inl rfl)]
  omega
 have hf : fail1 C B = ((B.size : Int) == 0 || decide (2 < C.length)) := by
  unfold fail1
  rw [r35, r48, show (a + z != (B.size : Int)) = false by rw [bne_eq_false_iff_eq]; omega, Bool.or_false]
 unfold decP groupF
 rw [hf]
 by_cases h3 : 2 < C.length
 ·rw [dTr h3, dTr (show 3 < G.length by omega), Bool.or_true, if_pos rfl, Bool.true_or, if_pos rfl]
 ·rw [dFa h3, dFa (show ¬ 3 < G.length by omega), Bool.or_false, Bool.false_or]
  by_cases hz : lastG G = 0
  ·rw [hz, if_pos (show ((0 : Int) == 0) = true from rfl)]
   have ht := hi.t
   rw [← hl, hz] at ht
   unfold pv at ht
   split at ht
   ·rw [if_pos (beT (by omega))]
   ·split
    ·rfl
    ·rw [if_pos]
     rw [badF_iff]
     refine ⟨(C.length : Int) - 1, by omega, by omega, ?_⟩
     unfold badAt
     rw [show rd C ((C.length : Int) - 1) = B.size by omega]
     simp
  ·rw [if_neg (show ¬ (lastG G == 0) = true by simpa using hz)]
   have hn : rd G C.length ≠ 0 := by rw [← hl]; exact hz
   have hpos : 0 ≤ pv C C.length := by
    unfold pv
    split
    ·exact Int.le_refl _
    ·rw [show (C.length : Int) - 1 = ((C.length - 1 : Nat) : Int) by omega]
     have := (hi.up (C.length - 1) (by omega)).1
     omega
   have ht := hi.t
   have hge := hi.n
   rw [if_neg (show ¬ ((B.size : Int) == 0) = true from fun e => by have := beq_iff_eq.mp e; omega)]
   have hb : badF C B.size C.length 0 = false := by
    cases hc : badF C B.size C.length 0 with
    | false => rfl
    | true =>
     obtain ⟨j, j0, j1, j2⟩ := (badF_iff C _ _ _).mp hc
     obtain ⟨n, rfl⟩ : ∃ n : Nat, j = n := ⟨j.toNat, by omega⟩
     have u := hi.up n (by omega)
     have v := hi.under hn (C.length - n - 1) n (by omega)
     unfold badAt at j2
     simp only [Bool.or_eq_true, Bool.and_eq_true, beq_iff_eq, decide_eq_true_eq] at j2
     unfold pv at u
     rcases j2 with j2 | j2 | ⟨j2, j3⟩
     ·omega
     ·omega
     ·rw [if_neg (by omega)] at u
      omega
   have e1 : (if 0 < C.length then (B.size : Int) - rd C ((C.length : Int) - 1) else h.pr) = if 1 < G.length then lastG G else h.pr := by
    by_cases h1 : 0 < C.length
    ·rw [if_pos h1, if_pos (show 1 < G.length by omega), hl, ht]
     unfold pv
     rw [if_neg (by omega)]
    ·rw [if_neg h1, if_neg (show ¬ 1 < G.length by omega)]
   have e2 : (if 1 < C.length then rd C 1 - rd C 0 else h.se) = if 2 < G.length then rd G 1 else h.se := by
    by_cases h1 : 1 < C.length
    ·rw [if_pos h1, if_pos (show 2 < G.length by omega)]
     have := (hi.g 1 h1).1
     unfold pv at this
     rw [if_neg (by omega)] at this
     exact this.symm
    ·rw [if_neg h1, if_neg (show ¬ 2 < G.length by omega)]
   rw [hb, if_neg (by decide)]
   unfold setP
   rw [r48, e1, e2]
def endN (s : ByteArray) (p : Int) : Int := endF s ((s.size : Int) - p).toNat p
theorem end_range (s : ByteArray) (p : Int) (hp : p ≤ s.size) : p ≤ endN s p ∧ endN s p ≤ s.size := by
 have := endF_range s ((s.size : Int) - p).toNat p
 unfold endN
 omega
theorem inv_start : InvG [0] 0 [] ⟨#[]⟩ :=
 ⟨⟨0, Int.le_refl _, rfl, Int.le_refl _, fun i h1 h2 => by omega, fun i h1 h2 => absurd h2 (by show ¬ i < ((0 : Nat) : Int); omega)⟩, rfl, rfl, fun i hi => absurd hi (by simp), Int.le_refl _⟩
theorem places_doc (s : ByteArray) (p : Int) (h : Sb) (h0 : 0 ≤ p) (hp : p ≤ s.size) (r : ByteArray) (hr : r = s.extract p.toNat (endN s p).toNat) :
  placesF s p h = (decP (rowF r (endN s p - p).toNat 0 [] ⟨#[]⟩).1 (rowF r (endN s p - p).toNat 0 [] ⟨#[]⟩).2 h).map (fun y => (endN s p, y)) := by
 have he := end_range s p hp
 have k := pl_row s p (endN s p) r h0 he.2 he.1 (by rw [hr, show p + (endN s p - p) = endN s p by omega]) ((s.size : Int) - p).toNat p [0] 0 [] ⟨#[]⟩ (Int.le_refl _) (by omega) rfl inv_start
 rw [Int.sub_self] at k
 unfold placesF
 cases hx : plF s ((s.size : Int) - p).toNat p [0] 0 with
 | none =>
  rw [hx] at k
  rw [decP_bad h k]
  rfl
 | some x =>
  rw [hx] at k
  rw [decP_good h k.2]
  show (groupF x.2.1 x.2.2 h).map (fun y => (x.1, y)) = _
  rw [k.1]
end Go.Proofs.Ytacnjemndfmbhaa.Q
end
