import Derived.StillTailTactics
import Derived.Test.YtacnjemndfmbhaaC10
namespace Go.Proofs.Ytacnjemndfmbhaa
open Go.RowKit
theorem aP22 {p : Prop} (h : p := by exact ⟨⟨by have := h.p0; show 0 ≤ x.1; omega, r2, by show TokOk x.2.p; rw [r3]; exact h.tp, by show checkS x.2.p = 0; rw [r3]; exact h.cp, by show TokOk x.2.s; rw [r4]; exact h.ts, by show checkS x.2.s = 0; rw [r4]; exact h.cs, fun e => by omega, fun e => by omega, fun _ => h.n5 (by omega)⟩, fun e => by omega⟩) : p := h
theorem aP21 {p : Prop} (h : p := by
    go_wp2
    repeat (go_quiet (fail); try go_wp2_with (first | (go_at_call 65; (with_reducible refine (grouped_calls (HC.out.drewN _) (HO.out.step (pw_below_drewN (Below.refl _ _) _)) HI.out.2.2.2.2.1 ?s1 z p ?s2).mono ?_); (case s1 => have := HI.out; have := HP.out; omega); (case s2 => have := HI.out; have := HP.out; omega); intro e w1 hd; have he := doneL_ret hd; subst he; have HF := Aside0.mk hd; clear hd)))
    go_ret
    rw [HRR.out]
    have hf := HF.out
    rw [Option.isSome_map] at hf
    exact hf) : p := h
theorem aP20 {p : Prop} (h : p := by
    go_region_held3 (fun w' => w'.cell? ⟨g, 0, none⟩ = some (.string s) ∧ w'.cell? ⟨g, 1, none⟩ = some (.int .i64 i)) (first | exact ⟨HC.out.c0, HC.out.c1⟩) (first | (go_at_call 85; (with_reducible refine (parse_calls (s.extract p.toNat i.toNat) _ (Glob_below HG.out (by first | exact HC.out.below | exact HC.out.drew1.below | exact (HC.out.drewN _).below)) HP.out.2.2).mono ?_); rintro e w1 ⟨A, c, rfl, hr, hb⟩; have HR := Aside0.mk (row_in HW.out hr); have nc := Aside0.mk ((by first | exact HC.out | exact HC.out.drew1 | exact HC.out.drewN _ : CW w0 _ g m L s i h n).step hb); clear HC hb hr; have HC := nc; clear nc))
    go_wp2
    go_ret2
    exact ⟨A, rfl, HR.out, HC.out⟩) : p := h
theorem aP50 {p : Prop} (h : p := by first | exact HC.out | exact HC.out.drew1 | exact HC.out.drewN _) : p := h
theorem aP19 {p : Prop} (h : p := by
    go_wp2_with (go_at_call 27; (with_reducible refine (next_calls HC.out b ?s1 HP.out.2.2).mono ?_); (case s1 => have := HI.out; have := HP.out; omega); rw [HB.out, nextP_no HB.out]; rintro e w1 ⟨rfl, hc⟩; have nc := Aside0.mk hc; clear HC hc; have HC := nc; clear nc)
    go_ret
    exact ⟨ret_int HE.out.symm, by rw [HE.out, ← HI.out.1]; exact HC.out⟩) : p := h
end Go.Proofs.Ytacnjemndfmbhaa
section
namespace Go.Proofs.Ytacnjemndfmbhaa.Q
open Go.RowKit Go.Proofs.Ytacnjemndfmbhaa.A Go.Proofs.YtacnjemndfmbhaaW.PrintWords Go.Proofs.YtacnjemndfmbhaaW.PrintLast Go.Proofs.YtacnjemndfmbhaaW.PrintMore
set_option linter.unusedVariables false
set_option linter.unusedSimpArgs false
def RowIn (w : World) (base : Nat) (ok : Nat → Prop) (A : Option Addr) (xs : List S53) : Prop := ∃ c, Kd.R k53 53 w base ok (.slice A xs.length c) xs
theorem RowIn.C {w : World} {base : Nat} {ok : Nat → Prop} {A : Option Addr} {xs : List S53} (h : RowIn w base ok A xs) : Kd.C k53 w A xs.length xs := by
  obtain ⟨c, h⟩ := h
  exact (Kd.R_reads' h).2.2
theorem RowIn.below {w w1 : World} {base : Nat} {ok : Nat → Prop} {A : Option Addr} {xs : List S53} (h : RowIn w base ok A xs) (hb : Below w.heap.size w w1) : RowIn w1 base ok A xs := by
  obtain ⟨c, h⟩ := h
  exact ⟨c, Kd.R_below h hb⟩
theorem RowIn.nil (w : World) (base : Nat) (ok : Nat → Prop) : RowIn w base ok none [] := ⟨0, Kd.R_nil _ _ _ _ _⟩
theorem ne5348 : ∀ q, q ∈ (53 : Nat) :: k53.E → q ≠ 48 := by
  intro q hq
  have : q = 53 := aP40
  rw [this]; decide
theorem row_set {w : World} {base g : Nat} {ok : Nat → Prop} {A : Option Addr} {xs : List S53} {cs : Array Value} (h : RowIn w base ok A xs) (hb : w.heap[g]? = some (.cells cs 48 (0, 0))) (i : Nat) (v : Value) : RowIn (w.setCell ⟨g, i, none⟩ v) base ok A xs := by
  obtain ⟨c, h⟩ := h
  exact ⟨c, Kd.R_set h hb ne5348 i v⟩
theorem size_put (w : World) (a : Addr) (v : Value) : (w.setCell a v).heap.size = w.heap.size := by simp [World.setCell]
@[reducible] def scC (L : Sl) (s : ByteArray) (p : Int) (h : Sb) (n : Int) : Array Value := #[.string s, .int .i64 p, .slice L.A h.p.length L.c, .slice L.B h.s.length L.d, .int .i64 h.im, .int .i64 h.fn, .int .i64 h.fx, .int .i64 h.pr, .int .i64 h.se, .int .i64 h.em, .bool h.ep, .string h.pad, .int .i64 h.pa, .int .i64 h.wd, .int .i64 n]
structure Mk where
  m : Nat
  R : World
structure CW (w0 w : World) (g : Nat) (m : Mk) (L : Sl) (s : ByteArray) (p : Int) (h : Sb) (n : Int) : Prop where
  ge : w0.heap.size ≤ g
  blk : w.heap[g]? = some (.cells (scC L s p h n) 48 (0, 0))
  rp : RowIn w w0.heap.size (fun k => k < m.m) L.A h.p
  rs : RowIn w w0.heap.size (fun k => m.m ≤ k) L.B h.s
  below : Below w0.heap.size w0 w
  mw : m.m ≤ w.heap.size
  pc : h.p.length ≤ L.c
  sc : h.s.length ≤ L.d
  rz : m.R.heap.size ≤ w.heap.size
  kept : ∀ k, k < m.R.heap.size → k ≠ g → w.heap[k]? = m.R.heap[k]?
def Fl (w0 w : World) (g : Nat) (R : World) : Prop := Below w0.heap.size w0 w ∧ R.heap.size ≤ w.heap.size ∧ ∀ k, k < R.heap.size → k ≠ g → w.heap[k]? = R.heap[k]?
namespace CW
variable {w0 w w1 : World} {g : Nat} {m : Mk} {L : Sl} {s : ByteArray} {p : Int} {h : Sb} {n : Int} (hh : CW w0 w g m L s p h n)
include hh
theorem fl : Fl w0 w g m.R := ⟨hh.below, hh.rz, hh.kept⟩
theorem step (hb : Below w.heap.size w w1) : CW w0 w1 g m L s p h n := ⟨hh.ge, blk_below hh.blk hb, hh.rp.below hb, hh.rs.below hb, below_step hh.below hb, Nat.le_trans hh.mw hb.size, hh.pc, hh.sc, Nat.le_trans hh.rz hb.size, fun k h1 h2 => (hb.block k (Nat.lt_of_lt_of_le h1 hh.rz)).trans (hh.kept k h1 h2)⟩
theorem drew1 : CW w0 w.drew g m L s p h n := hh.step (below_drew1 (Below.refl _ _))
theorem drewN (k : Nat) : CW w0 (w.drewN k) g m L s p h n := hh.step (pw_below_drewN (Below.refl _ _) k)
theorem c0 : w.cell? ⟨g, 0, none⟩ = some (.string s) := (blk_cell hh.blk 0).trans rfl
theorem c1 : w.cell? ⟨g, 1, none⟩ = some (.int .i64 p) := (blk_cell hh.blk 1).trans rfl
theorem c2 : w.cell? ⟨g, 2, none⟩ = some (.slice L.A h.p.length L.c) := (blk_cell hh.blk 2).trans rfl
theorem c3 : w.cell? ⟨g, 3, none⟩ = some (.slice L.B h.s.length L.d) := (blk_cell hh.blk 3).trans rfl
theorem c4 : w.cell? ⟨g, 4, none⟩ = some (.int .i64 h.im) := (blk_cell hh.blk 4).trans rfl
theorem c5 : w.cell? ⟨g, 5, none⟩ = some (.int .i64 h.fn) := (blk_cell hh.blk 5).trans rfl
theorem c6 : w.cell? ⟨g, 6, none⟩ = some (.int .i64 h.fx) := (blk_cell hh.blk 6).trans rfl
theorem c7 : w.cell? ⟨g, 7, none⟩ = some (.int .i64 h.pr) := (blk_cell hh.blk 7).trans rfl
theorem c8 : w.cell? ⟨g, 8, none⟩ = some (.int .i64 h.se) := (blk_cell hh.blk 8).trans rfl
theorem c9 : w.cell? ⟨g, 9, none⟩ = some (.int .i64 h.em) := (blk_cell hh.blk 9).trans rfl
theorem c10 : w.cell? ⟨g, 10, none⟩ = some (.bool h.ep) := (blk_cell hh.blk 10).trans rfl
theorem c11 : w.cell? ⟨g, 11, none⟩ = some (.string h.pad) := (blk_cell hh.blk 11).trans rfl
theorem c12 : w.cell? ⟨g, 12, none⟩ = some (.int .i64 h.pa) := (blk_cell hh.blk 12).trans rfl
theorem c13 : w.cell? ⟨g, 13, none⟩ = some (.int .i64 h.wd) := (blk_cell hh.blk 13).trans rfl
theorem c14 : w.cell? ⟨g, 14, none⟩ = some (.int .i64 n) := (blk_cell hh.blk 14).trans rfl
theorem fz (i : Nat) : w.frozen? ⟨g, i, none⟩ = false := blk_frozen hh.blk i
theorem set_im (v : Int) : CW w0 (w.setCell ⟨g, 4, none⟩ (.int .i64 v)) g m L s p {h with im := v} n := ⟨hh.ge, blk_put hh.blk 4 _ rfl, row_set hh.rp hh.blk 4 _, row_set hh.rs hh.blk 4 _, below_set hh.below hh.ge, by rw [size_put]; exact hh.mw, hh.pc, hh.sc, by rw [size_put]; exact hh.rz, fun k h1 h2 => (Below.heap_setCell w _ _ k h2).trans (hh.kept k h1 h2)⟩
theorem set_fn (v : Int) : CW w0 (w.setCell ⟨g, 5, none⟩ (.int .i64 v)) g m L s p {h with fn := v} n := ⟨hh.ge, blk_put hh.blk 5 _ rfl, row_set hh.rp hh.blk 5 _, row_set hh.rs hh.blk 5 _, below_set hh.below hh.ge, by rw [size_put]; exact hh.mw, hh.pc, hh.sc, by rw [size_put]; exact hh.rz, fun k h1 h2 => (Below.heap_setCell w _ _ k h2).trans (hh.kept k h1 h2)⟩
theorem set_fx (v : Int) : CW w0 (w.setCell ⟨g, 6, none⟩ (.int .i64 v)) g m L s p {h with fx := v} n := ⟨hh.ge, blk_put hh.blk 6 _ rfl, row_set hh.rp hh.blk 6 _, row_set hh.rs hh.blk 6 _, below_set hh.below hh.ge, by rw [size_put]; exact hh.mw, hh.pc, hh.sc, by rw [size_put]; exact hh.rz, fun k h1 h2 => (Below.heap_setCell w _ _ k h2).trans (hh.kept k h1 h2)⟩
theorem set_pr (v : Int) : CW w0 (w.setCell ⟨g, 7, none⟩ (.int .i64 v)) g m L s p {h with pr := v} n := ⟨hh.ge, blk_put hh.blk 7 _ rfl, row_set hh.rp hh.blk 7 _, row_set hh.rs hh.blk 7 _, below_set hh.below hh.ge, by rw [size_put]; exact hh.mw, hh.pc, hh.sc, by rw [size_put]; exact hh.rz, fun k h1 h2 => (Below.heap_setCell w _ _ k h2).trans (hh.kept k h1 h2)⟩
theorem set_se (v : Int) : CW w0 (w.setCell ⟨g, 8, none⟩ (.int .i64 v)) g m L s p {h with se := v} n := ⟨hh.ge, blk_put hh.blk 8 _ rfl, row_set hh.rp hh.blk 8 _, row_set hh.rs hh.blk 8 _, below_set hh.below hh.ge, by rw [size_put]; exact hh.mw, hh.pc, hh.sc, by rw [size_put]; exact hh.rz, fun k h1 h2 => (Below.heap_setCell w _ _ k h2).trans (hh.kept k h1 h2)⟩
theorem set_em (v : Int) : CW w0 (w.setCell ⟨g, 9, none⟩ (.int .i64 v)) g m L s p {h with em := v} n := ⟨hh.ge, blk_put hh.blk 9 _ rfl, row_set hh.rp hh.blk 9 _, row_set hh.rs hh.blk 9 _, below_set hh.below hh.ge, by rw [size_put]; exact hh.mw, hh.pc, hh.sc, by rw [size_put]; exact hh.rz, fun k h1 h2 => (Below.heap_setCell w _ _ k h2).trans (hh.kept k h1 h2)⟩
theorem set_ep (v : Bool) : CW w0 (w.setCell ⟨g, 10, none⟩ (.bool v)) g m L s p {h with ep := v} n := ⟨hh.ge, blk_put hh.blk 10 _ rfl, row_set hh.rp hh.blk 10 _, row_set hh.rs hh.blk 10 _, below_set hh.below hh.ge, by rw [size_put]; exact hh.mw, hh.pc, hh.sc, by rw [size_put]; exact hh.rz, fun k h1 h2 => (Below.heap_setCell w _ _ k h2).trans (hh.kept k h1 h2)⟩
theorem set_pad (v : ByteArray) : CW w0 (w.setCell ⟨g, 11, none⟩ (.string v)) g m L s p {h with pad := v} n := ⟨hh.ge, blk_put hh.blk 11 _ rfl, row_set hh.rp hh.blk 11 _, row_set hh.rs hh.blk 11 _, below_set hh.below hh.ge, by rw [size_put]; exact hh.mw, hh.pc, hh.sc, by rw [size_put]; exact hh.rz, fun k h1 h2 => (Below.heap_setCell w _ _ k h2).trans (hh.kept k h1 h2)⟩
theorem set_pa (v : Int) : CW w0 (w.setCell ⟨g, 12, none⟩ (.int .i64 v)) g m L s p {h with pa := v} n := ⟨hh.ge, blk_put hh.blk 12 _ rfl, row_set hh.rp hh.blk 12 _, row_set hh.rs hh.blk 12 _, below_set hh.below hh.ge, by rw [size_put]; exact hh.mw, hh.pc, hh.sc, by rw [size_put]; exact hh.rz, fun k h1 h2 => (Below.heap_setCell w _ _ k h2).trans (hh.kept k h1 h2)⟩
theorem set_wd (v : Int) : CW w0 (w.setCell ⟨g, 13, none⟩ (.int .i64 v)) g m L s p {h with wd := v} n := ⟨hh.ge, blk_put hh.blk 13 _ rfl, row_set hh.rp hh.blk 13 _, row_set hh.rs hh.blk 13 _, below_set hh.below hh.ge, by rw [size_put]; exact hh.mw, hh.pc, hh.sc, by rw [size_put]; exact hh.rz, fun k h1 h2 => (Below.heap_setCell w _ _ k h2).trans (hh.kept k h1 h2)⟩
theorem set_at (v : Int) : CW w0 (w.setCell ⟨g, 1, none⟩ (.int .i64 v)) g m L s v h n := ⟨hh.ge, blk_put hh.blk 1 _ rfl, row_set hh.rp hh.blk 1 _, row_set hh.rs hh.blk 1 _, below_set hh.below hh.ge, by rw [size_put]; exact hh.mw, hh.pc, hh.sc, by rw [size_put]; exact hh.rz, fun k h1 h2 => (Below.heap_setCell w _ _ k h2).trans (hh.kept k h1 h2)⟩
theorem set_long (v : Int) : CW w0 (w.setCell ⟨g, 14, none⟩ (.int .i64 v)) g m L s p h v := ⟨hh.ge, blk_put hh.blk 14 _ rfl, row_set hh.rp hh.blk 14 _, row_set hh.rs hh.blk 14 _, below_set hh.below hh.ge, by rw [size_put]; exact hh.mw, hh.pc, hh.sc, by rw [size_put]; exact hh.rz, fun k h1 h2 => (Below.heap_setCell w _ _ k h2).trans (hh.kept k h1 h2)⟩
end CW
def bAt (s : ByteArray) (p b : Int) : Bool := decide (p < (s.size : Int)) && bt s p == b
def nextP (s : ByteArray) (p b : Int) : Int := if bAt s p b = true then p + 1 else p
theorem nextP_yes {s : ByteArray} {p b : Int} (h : bAt s p b = true) : nextP s p b = p + 1 := by unfold nextP; rw [if_pos h]
theorem nextP_no {s : ByteArray} {p b : Int} (h : bAt s p b = false) : nextP s p b = p := by unfold nextP; rw [if_neg (by rw [h]; decide)]
def runF (s : ByteArray) (b : Int) : Nat → Int → Int
  | 0, _ => 0
  | d + 1, p => if bAt s p b = true then 1 + runF s b d (p + 1) else 0
def runN (s : ByteArray) (b : Int) (p : Int) : Int := runF s b ((s.size : Int) - p).toNat p
theorem runF_range (s : ByteArray) (b : Int) : ∀ (d : Nat) (p : Int), 0 ≤ runF s b d p ∧ (p ≤ s.size → p + runF s b d p ≤ s.size)
  | 0, p => ⟨Int.le_refl _, fun h => by simp [runF]; exact h⟩
  | d + 1, p => by
    obtain ⟨h1, h2⟩ := runF_range s b d (p + 1)
    unfold runF
    split
    · rename_i h
      simp only [bAt, Bool.and_eq_true, decide_eq_true_eq] at h
      exact ⟨by omega, fun _ => by have := h2 (by omega); omega⟩
    · exact ⟨Int.le_refl _, fun h => by omega⟩
set_option maxHeartbeats 4000000 in
set_option maxRecDepth 100000 in
theorem next_calls {w0 w : World} {g : Nat} {m : Mk} {L : Sl} {s : ByteArray} {p : Int} {h : Sb} {n : Int} (hh : CW w0 w g m L s p h n) (b : Int) (h0 : 0 ≤ p) (hs : s.size ≤ 128) :
    Calls Try.prog 27 #[.pointer (some ⟨g, 0, none⟩), .int .u8 b] w fun e w' => e = .returned (.bool (bAt s p b)) ∧ CW w0 w' g m L s (nextP s p b) h n := by
  have HC := Aside0.mk hh
  have e0 := HC.out.c0
  have e1 := HC.out.c1
  have e2 := HC.out.c2
  have e3 := HC.out.c3
  have e4 := HC.out.c4
  have e5 := HC.out.c5
  have e6 := HC.out.c6
  have e7 := HC.out.c7
  have e8 := HC.out.c8
  have e9 := HC.out.c9
  have e10 := HC.out.c10
  have e11 := HC.out.c11
  have e12 := HC.out.c12
  have e13 := HC.out.c13
  have e14 := HC.out.c14
  have z1 := hh.fz 1
  have p5 := eq_true h0
  have hx5 := bt_at s p
  clear hh
  by_cases c3 : p < (s.size : Int)
  · have q5 := eq_true c3
    have c3b0 : decide (p < (s.size : Int)) = true := decide_eq_true c3
    have hp1 : p ≤ 128 := by omega
    cases c6 : (bt s p == b)
    · have HB := Aside0.mk (show bAt s p b = false by unfold bAt; rw [c3b0, c6]; rfl)
      clear c3 hp1
      go_enter Try.func27, Try.ntmps27
      go_wp2
      repeat (go_quiet (fail); try go_wp2)
      go_ret
      exact ⟨ret_bool HB.out.symm, by rw [nextP_no HB.out]; exact HC.out.drewN _⟩
    · have HB := Aside0.mk (show bAt s p b = true by unfold bAt; rw [c3b0, c6]; rfl)
      clear c3
      go_enter Try.func27, Try.ntmps27
      go_wp2
      repeat (go_quiet (fail); try go_wp2)
      go_ret
      exact ⟨ret_bool HB.out.symm, by rw [nextP_yes HB.out]; exact (HC.out.drewN _).set_at _⟩
  · have c3b0 : decide (p < (s.size : Int)) = false := decide_eq_false c3
    have HB := Aside0.mk (show bAt s p b = false by unfold bAt; rw [c3b0]; rfl)
    clear c3
    go_enter Try.func27, Try.ntmps27
    go_wp2
    repeat (go_quiet (fail); try go_wp2)
    go_ret
    exact ⟨ret_bool HB.out.symm, by rw [nextP_no HB.out]; exact HC.out.drewN _⟩
set_option maxHeartbeats 4000000 in
set_option maxRecDepth 100000 in
theorem many_calls {w0 w : World} {g : Nat} {m : Mk} {L : Sl} {s : ByteArray} {p : Int} {h : Sb} {n : Int} (hh : CW w0 w g m L s p h n) (b : Int) (h0 : 0 ≤ p) (hp : p ≤ s.size) (hs : s.size ≤ 128) :
    Calls Try.prog 66 #[.pointer (some ⟨g, 0, none⟩), .int .u8 b] w fun e w' => e = .returned (.int .i64 (runN s b p)) ∧ CW w0 w' g m L s (p + runN s b p) h n := by
  have HC := Aside0.mk hh
  have HP := Aside0.mk (show 0 ≤ p ∧ p ≤ s.size ∧ s.size ≤ 128 from ⟨h0, hp, hs⟩)
  clear hh h0 hp hs
  go_enter Try.func66, Try.ntmps66
  go_wp2
  go_loopg [5] ((s.size : Int) - p).toNat (fun gk v5 wr => ∃ (k q : Int), v5 = .int .i64 k ∧ Aside0 (q = p + k ∧ 0 ≤ k ∧ q ≤ s.size ∧ (gk : Int) = s.size - q) ∧ Aside0 (runN s b p = k + runF s b gk q) ∧ Aside0 (CW w0 wr g m L s q h n))
  case atStart => exact ⟨0, p, rfl, ⟨by have := HP.out; omega⟩, ⟨by unfold runN; omega⟩, HC⟩
  case round =>
    clear HC
    obtain ⟨k, q, rfl, HI, HR, HC⟩ := hrel
    cases gk with
    | zero =>
      have HB := Aside0.mk (show bAt s q b = false by unfold bAt; rw [decide_eq_false (by have := HI.out; omega)]; rfl)
      have HE := Aside0.mk (show runN s b p = k by rw [HR.out]; simp [runF])
      exact aP19
    | succ d =>
      cases hb : bAt s q b with
      | false =>
        have HB := Aside0.mk hb
        have HE := Aside0.mk (show runN s b p = k by rw [HR.out]; simp [runF, hb])
        clear hb
        exact aP19
      | true =>
        have HB := Aside0.mk hb
        have HE := Aside0.mk (show runN s b p = k + 1 + runF s b d (q + 1) by rw [HR.out]; simp only [runF, hb, if_true]; omega)
        have k0 : 0 ≤ k := HI.out.2.1
        have k1 : k ≤ 128 := by have := HI.out; have := HP.out; omega
        clear hb
        go_wp2_with (go_at_call 27; (with_reducible refine (next_calls HC.out b ?s1 HP.out.2.2).mono ?_); (case s1 => have := HI.out; have := HP.out; omega); rw [HB.out, nextP_yes HB.out]; rintro e w1 ⟨rfl, hc⟩; have nc := Aside0.mk hc; clear HC hc; have HC := nc; clear nc)
        go_roundg d
        case measure => omega
        case rel => exact ⟨k + 1, q + 1, by first | (with_reducible rfl) | rfl, ⟨by have := HI.out; omega⟩, HE, HC⟩
end Go.Proofs.Ytacnjemndfmbhaa.Q
end
section
namespace Go.Proofs.Ytacnjemndfmbhaa.Q
open Go.RowKit Go.Proofs.Ytacnjemndfmbhaa.A Go.Proofs.YtacnjemndfmbhaaW.PrintWords Go.Proofs.YtacnjemndfmbhaaW.PrintLast Go.Proofs.YtacnjemndfmbhaaW.PrintMore
set_option linter.unusedVariables false
set_option linter.unusedSimpArgs false
noncomputable def fillF (s : ByteArray) (p : Int) (h : Sb) (k : Int) : Option (Int × Sb) :=
  if bAt s p 42 = true then (if (runeS s (p + 1) == 0 || !h.pad.toList.isEmpty) = true then none else some (p + 1 + runeS s (p + 1), {h with pad := s.extract (p + 1).toNat (p + 1 + runeS s (p + 1)).toNat, pa := k})) else some (p, h)
def Done (w0 : World) (g : Nat) (m : Mk) (L : Sl) (s : ByteArray) (n : Int) (r : Option (Int × Sb)) (e : Ending) (w' : World) : Prop :=
  match r with
  | none => e = .returned (.bool false) ∧ Fl w0 w' g m.R
  | some x => e = .returned (.bool true) ∧ CW w0 w' g m L s x.1 x.2 n
theorem runeS_in (s : ByteArray) (p : Int) (h : runeS s p ≠ 0) : 1 ≤ runeS s p ∧ runeS s p ≤ 4 ∧ 0 ≤ p ∧ p + runeS s p ≤ s.size := by
  rw [runeS_eq] at h ⊢
  exact rune_pos s p h
set_option maxHeartbeats 8000000 in
set_option maxRecDepth 100000 in
theorem fill_calls {w0 w : World} {g : Nat} {m : Mk} {L : Sl} {s : ByteArray} {p : Int} {h : Sb} {n : Int} (hh : CW w0 w g m L s p h n) (k : Int) (h0 : 0 ≤ p) (hs : s.size ≤ 128) :
    Calls Try.prog 63 #[.pointer (some ⟨g, 0, none⟩), .int .i64 k] w (Done w0 g m L s n (fillF s p h k)) := by
  have HC := Aside0.mk hh
  have HP := Aside0.mk (show 0 ≤ p ∧ s.size ≤ 128 from ⟨h0, hs⟩)
  clear hh h0 hs
  cases hb : bAt s p 42 with
  | false =>
    have HB := Aside0.mk hb
    have HE := Aside0.mk (show fillF s p h k = some (p, h) by unfold fillF; rw [if_neg (by rw [hb]; decide)])
    clear hb
    rw [HE.out]
    go_enter Try.func63, Try.ntmps63
    go_wp2_with (go_at_call 27; (with_reducible refine (next_calls HC.out 42 HP.out.1 HP.out.2).mono ?_); rw [HB.out, nextP_no HB.out]; rintro e w1 ⟨rfl, hc⟩; have nc := Aside0.mk hc; clear HC hc; have HC := nc; clear nc)
    go_ret
    exact ⟨rfl, HC.out⟩
  | true =>
    have HB := Aside0.mk hb
    have HE := Aside0.mk (show fillF s p h k = if (runeS s (p + 1) == 0 || !h.pad.toList.isEmpty) = true then none else some (p + 1 + runeS s (p + 1), {h with pad := s.extract (p + 1).toNat (p + 1 + runeS s (p + 1)).toNat, pa := k}) by unfold fillF; rw [if_pos hb])
    clear hb
    have hs2 : s.size ≤ 281474976710656 := by have := HP.out; omega
    cases r1 : (runeS s (p + 1) == 0) with
    | true =>
      have HE2 := Aside0.mk (show fillF s p h k = none by rw [HE.out, r1]; rfl)
      rw [HE2.out]
      go_enter Try.func63, Try.ntmps63
      go_wp2_with (go_at_call 27; (with_reducible refine (next_calls HC.out 42 HP.out.1 HP.out.2).mono ?_); rw [HB.out, nextP_yes HB.out]; rintro e w1 ⟨rfl, hc⟩; have nc := Aside0.mk hc; clear HC hc; have HC := nc; clear nc)
      go_region_held3 (fun w' => w'.cell? ⟨g, 0, none⟩ = some (.string s) ∧ w'.cell? ⟨g, 1, none⟩ = some (.int .i64 (p + 1)))
        (first | exact ⟨HC.out.c0, HC.out.c1⟩)
        (first | (go_at_call 62; (with_reducible refine (rune_calls s (p + 1) _ hs2).mono ?_); rintro e w1 ⟨rfl, hb⟩; have nc := Aside0.mk ((aP50 : CW w0 _ g m L s (p + 1) h n).step hb); clear HC hb; have HC := nc; clear nc))
      go_wp2
      go_ret
      exact ⟨rfl, HC.out.fl⟩
    | false =>
      cases r2 : h.pad.toList.isEmpty with
      | false =>
        have HE2 := Aside0.mk (show fillF s p h k = none by rw [HE.out, r1, r2]; rfl)
        rw [HE2.out]
        go_enter Try.func63, Try.ntmps63
        go_wp2_with (go_at_call 27; (with_reducible refine (next_calls HC.out 42 HP.out.1 HP.out.2).mono ?_); rw [HB.out, nextP_yes HB.out]; rintro e w1 ⟨rfl, hc⟩; have nc := Aside0.mk hc; clear HC hc; have HC := nc; clear nc)
        go_region_held3 (fun w' => w'.cell? ⟨g, 0, none⟩ = some (.string s) ∧ w'.cell? ⟨g, 1, none⟩ = some (.int .i64 (p + 1)))
          (first | exact ⟨HC.out.c0, HC.out.c1⟩)
          (first | (go_at_call 62; (with_reducible refine (rune_calls s (p + 1) _ hs2).mono ?_); rintro e w1 ⟨rfl, hb⟩; have nc := Aside0.mk ((aP50 : CW w0 _ g m L s (p + 1) h n).step hb); clear HC hb; have HC := nc; clear nc))
        have e11 := HC.out.c11
        go_wp2
        go_ret
        exact ⟨rfl, HC.out.fl⟩
      | true =>
        have HR := Aside0.mk (runeS_in s (p + 1) (beq_eq_false_iff_ne.mp r1))
        have HE2 := Aside0.mk (show fillF s p h k = some (p + 1 + runeS s (p + 1), {h with pad := s.extract (p + 1).toNat (p + 1 + runeS s (p + 1)).toNat, pa := k}) by rw [HE.out, r1, r2]; rfl)
        rw [HE2.out]
        obtain ⟨q, hq⟩ : ∃ q, p + 1 + runeS s (p + 1) = q := ⟨_, rfl⟩
        rw [hq] at HR ⊢
        have hw : IntKind.i64.wrap (p + 1 + runeS s (p + 1)) = q := by rw [hq]; exact IntWalk.i64_in _ (by have := HR.out; have := HP.out; omega)
        have b1 : 0 ≤ p + 1 := by have := HP.out; omega
        have b2 : p + 1 ≤ q := by have := HR.out; omega
        have b3 : q ≤ (s.size : Int) := by have := HR.out; omega
        have b4 : (p + 1).toNat ≤ q.toNat := by omega
        have b5 : q.toNat ≤ s.size := by omega
        have b6 : 0 ≤ q := by omega
        clear hq
        go_enter Try.func63, Try.ntmps63
        go_wp2_with (go_at_call 27; (with_reducible refine (next_calls HC.out 42 HP.out.1 HP.out.2).mono ?_); rw [HB.out, nextP_yes HB.out]; rintro e w1 ⟨rfl, hc⟩; have nc := Aside0.mk hc; clear HC hc; have HC := nc; clear nc)
        go_region_held3 (fun w' => w'.cell? ⟨g, 0, none⟩ = some (.string s) ∧ w'.cell? ⟨g, 1, none⟩ = some (.int .i64 (p + 1)))
          (first | exact ⟨HC.out.c0, HC.out.c1⟩)
          (first | (go_at_call 62; (with_reducible refine (rune_calls s (p + 1) _ hs2).mono ?_); rintro e w1 ⟨rfl, hb⟩; have nc := Aside0.mk ((aP50 : CW w0 _ g m L s (p + 1) h n).step hb); clear HC hb; have HC := nc; clear nc))
        have e0 := HC.out.c0
        have e1 := HC.out.c1
        have e11 := HC.out.c11
        have e12 := HC.out.c12
        have z1 := HC.out.fz 1
        have z11 := HC.out.fz 11
        have z12 := HC.out.fz 12
        go_wp2
        go_region_held3 (fun w' => w'.cell? ⟨g, 0, none⟩ = some (.string s) ∧ w'.cell? ⟨g, 1, none⟩ = some (.int .i64 (p + 1)))
          (first | exact ⟨HC.out.c0, HC.out.c1⟩ | exact ⟨((HC.out.set_pad _).drew1).c0, ((HC.out.set_pad _).drew1).c1⟩ | exact ⟨(((HC.out.set_pad _).set_pa _).drew1).c0, (((HC.out.set_pad _).set_pa _).drew1).c1⟩)
          (fail)
        go_wp2
        go_ret
        exact ⟨rfl, ((((HC.out.set_pad _).set_pa k).set_at q).drew1)⟩
def fracF (s : ByteArray) (p : Int) (h : Sb) : Option (Int × Sb) :=
  if bAt s p 46 = true then (if (runN s 48 (p + 1) + runN s 35 (p + 1 + runN s 48 (p + 1)) == 0) = true then none else some (p + 1 + runN s 48 (p + 1) + runN s 35 (p + 1 + runN s 48 (p + 1)), {h with fn := runN s 48 (p + 1), fx := runN s 48 (p + 1) + runN s 35 (p + 1 + runN s 48 (p + 1))})) else some (p, h)
def expB (s : ByteArray) (p : Int) : Bool := Lib.hasPrefix (s.extract p.toNat s.size).data.toList [69, 48] || Lib.hasPrefix (s.extract p.toNat s.size).data.toList [69, 43, 48]
def expF (s : ByteArray) (p : Int) (h : Sb) : Int × Sb :=
  if expB s p = true then (nextP s (p + 1) 43 + runN s 48 (nextP s (p + 1) 43), {h with ep := bAt s (p + 1) 43, em := runN s 48 (nextP s (p + 1) 43)}) else (p, h)
def tailF (s : ByteArray) (p : Int) (h : Sb) : Option (Int × Sb) := (fracF s p h).map (fun x => expF s x.1 x.2)
def DoneL (w0 : World) (g : Nat) (m : Mk) (L : Sl) (s : ByteArray) (f : Int → Int) (r : Option (Int × Sb)) (e : Ending) (w' : World) : Prop :=
  match r with
  | none => e = .returned (.bool false) ∧ Fl w0 w' g m.R
  | some x => e = .returned (.bool true) ∧ CW w0 w' g m L s x.1 x.2 (f x.1)
theorem doneL_ret {w0 : World} {g : Nat} {m : Mk} {L : Sl} {s : ByteArray} {f : Int → Int} {r : Option (Int × Sb)} {e : Ending} {w' : World} (h : DoneL w0 g m L s f r e w') : e = .returned (.bool r.isSome) := by
  cases r with
  | none => exact h.1
  | some x => exact h.1
theorem done_ret {w0 : World} {g : Nat} {m : Mk} {L : Sl} {s : ByteArray} {n : Int} {r : Option (Int × Sb)} {e : Ending} {w' : World} (h : Done w0 g m L s n r e w') : e = .returned (.bool r.isSome) := by
  cases r with
  | none => exact h.1
  | some x => exact h.1
theorem run_range (s : ByteArray) (b p : Int) (hp : p ≤ s.size) : 0 ≤ runN s b p ∧ p + runN s b p ≤ s.size := by
  obtain ⟨h1, h2⟩ := runF_range s b ((s.size : Int) - p).toNat p
  exact ⟨h1, h2 hp⟩
theorem bAt_in {s : ByteArray} {p b : Int} (h : bAt s p b = true) : p + 1 ≤ s.size := by
  simp only [bAt, Bool.and_eq_true, decide_eq_true_eq] at h
  omega
theorem prefix_size {s : ByteArray} {p : Int} {l : List UInt8} (hl : l ≠ []) (h0 : 0 ≤ p) (h : Lib.hasPrefix (s.extract p.toNat s.size).data.toList l = true) : p + 1 ≤ s.size := by
  rcases l with _ | ⟨b, r⟩
  · exact absurd rfl hl
  by_cases c : (s.size : Int) ≤ p
  · have e : (s.extract p.toNat s.size).data.toList = [] := by
      apply List.eq_nil_of_length_eq_zero
      show (s.extract p.toNat s.size).data.toList.length = 0
      rw [Array.length_toList]
      show (s.extract p.toNat s.size).size = 0
      rw [ByteArray.size_extract]
      omega
    rw [e] at h
    exact absurd h (by simp [Lib.hasPrefix])
  · omega
theorem next_range {s : ByteArray} {p b : Int} (hp : p ≤ s.size) : p ≤ nextP s p b ∧ nextP s p b ≤ s.size := by
  unfold nextP
  split
  · have := bAt_in (by assumption); omega
  · omega
theorem exp_in {s : ByteArray} {p : Int} (h0 : 0 ≤ p) (h : expB s p = true) : p + 1 ≤ s.size := by
  unfold expB at h
  rw [Bool.or_eq_true] at h
  rcases h with h | h
  · exact prefix_size (by simp) h0 h
  · exact prefix_size (by simp) h0 h
theorem exp_range {s : ByteArray} {q : Int} (h0 : 0 ≤ q) (h1 : q ≤ s.size) (h : Sb) : q ≤ (expF s q h).1 ∧ (expF s q h).1 ≤ s.size := by
  unfold expF
  split
  · have hi := exp_in h0 (by assumption)
    have hn := next_range (b := 43) hi
    have hr := run_range s 48 _ hn.2
    exact ⟨by show q ≤ nextP s (q + 1) 43 + runN s 48 (nextP s (q + 1) 43); omega, hr.2⟩
  · exact ⟨Int.le_refl _, h1⟩
set_option maxHeartbeats 8000000 in
set_option maxRecDepth 100000 in
theorem fraction_calls {w0 w : World} {g : Nat} {m : Mk} {L : Sl} {s : ByteArray} {p : Int} {h : Sb} {n : Int} (hh : CW w0 w g m L s p h n) (h0 : 0 ≤ p) (hp : p ≤ s.size) (hs : s.size ≤ 128) (hn : 0 ≤ n ∧ n ≤ 200) :
    Calls Try.prog 42 #[.pointer (some ⟨g, 0, none⟩)] w (DoneL w0 g m L s (fun q => n + (q - p)) (tailF s p h)) := by
  have HC := Aside0.mk hh
  have HP := Aside0.mk (show (0 ≤ p ∧ p ≤ s.size) ∧ s.size ≤ 128 from ⟨⟨h0, hp⟩, hs⟩)
  have HN := Aside0.mk hn
  clear hh h0 hp hs hn
  have e1 := HC.out.c1
  go_enter Try.func42, Try.ntmps42
  go_upto_if 10 with (first | (go_at_call 27; (with_reducible refine (next_calls HC.out 46 HP.out.1.1 HP.out.2).mono ?_); rintro e w1 ⟨rfl, hc⟩; have nc := Aside0.mk hc; clear HC hc e1; have HC := nc; clear nc))
  go_cut [] (fun wc => ∃ (q : Int) (h' : Sb), Aside0 (fracF s p h = some (q, h')) ∧ Aside0 (p ≤ q ∧ q ≤ s.size) ∧ Aside0 (CW w0 wc g m L s q h' n))
  case first =>
    cases hb : bAt s p 46 with
    | false =>
      have HF := Aside0.mk (show fracF s p h = some (p, h) by unfold fracF; rw [if_neg (by rw [hb]; decide)])
      rw [nextP_no hb] at HC
      clear hb
      go_wp2
      go_meet
      case rel => exact ⟨p, h, HF, ⟨by have := HP.out; omega⟩, HC⟩
    | true =>
      have HF := Aside0.mk (show fracF s p h = if (runN s 48 (p + 1) + runN s 35 (p + 1 + runN s 48 (p + 1)) == 0) = true then none else some (p + 1 + runN s 48 (p + 1) + runN s 35 (p + 1 + runN s 48 (p + 1)), {h with fn := runN s 48 (p + 1), fx := runN s 48 (p + 1) + runN s 35 (p + 1 + runN s 48 (p + 1))}) by unfold fracF; rw [if_pos hb])
      have hi := bAt_in hb
      rw [nextP_yes hb] at HC
      clear hb
      have r1 := run_range s 48 (p + 1) hi
      obtain ⟨a, ha⟩ : ∃ a, runN s 48 (p + 1) = a := ⟨_, rfl⟩
      rw [ha] at HF r1
      have r2 := run_range s 35 (p + 1 + a) r1.2
      obtain ⟨b, hb⟩ : ∃ b, runN s 35 (p + 1 + a) = b := ⟨_, rfl⟩
      rw [hb] at HF r2
      have HR := Aside0.mk (And.intro r1 r2)
      have HI := Aside0.mk hi
      have HA := Aside0.mk (And.intro ha hb)
      have k0 : 0 ≤ a := r1.1
      have k1 : a ≤ 128 := by have := HP.out; omega
      have k2 : 0 ≤ b := r2.1
      have k3 : b ≤ 128 := by have := HP.out; omega
      have hw : IntKind.i64.wrap (a + b) = a + b := IntWalk.i64_in _ (by omega)
      clear r1 r2 hi ha hb
      cases hz : (a + b == 0) with
      | true =>
        have HT := Aside0.mk (show tailF s p h = none by unfold tailF; rw [HF.out, if_pos hz]; rfl)
        go_wp2_with (first | (go_at_call 66; (with_reducible refine (many_calls HC.out 48 ?s1 HI.out HP.out.2).mono ?_); (case s1 => have := HP.out; omega); rw [HA.out.1]; rintro e w1 ⟨rfl, hc⟩; have nc := Aside0.mk (hc.set_fn a); have e5 := hc.c5; have z5 := hc.fz 5; clear HC hc; have HC := nc; clear nc))
        go_region_held3 (fun w' => w'.cell? ⟨g, 5, none⟩ = some (.int .i64 a)) (first | exact HC.out.c5 | exact (HC.out.set_fx _).c5 | exact (HC.out.set_fx _).drew1.c5) (first | (go_at_call 66; (with_reducible refine (many_calls (by first | exact HC.out | exact HC.out.drew1 | exact HC.out.drewN _ : CW w0 _ g m L s (p + 1 + a) _ n) 35 ?s1 HR.out.1.2 HP.out.2).mono ?_); (case s1 => have := HP.out; omega); rw [HA.out.2]; rintro e w1 ⟨rfl, hc⟩; have e6 := hc.c6; have z6 := hc.fz 6; have nc := Aside0.mk hc; clear HC hc; have HC := nc; clear nc))
        go_wp2
        go_ret
        rw [HT.out]
        exact ⟨rfl, by first | exact (HC.out.set_fx (a + b)).fl | exact (HC.out.set_fx (a + b)).drew1.fl | exact ((HC.out.set_fx (a + b)).drewN _).fl⟩
      | false =>
        have HF2 := Aside0.mk (show fracF s p h = some (p + 1 + a + b, {h with fn := a, fx := a + b}) by rw [HF.out, if_neg (by rw [hz]; decide)])
        go_wp2_with (first | (go_at_call 66; (with_reducible refine (many_calls HC.out 48 ?s1 HI.out HP.out.2).mono ?_); (case s1 => have := HP.out; omega); rw [HA.out.1]; rintro e w1 ⟨rfl, hc⟩; have nc := Aside0.mk (hc.set_fn a); have e5 := hc.c5; have z5 := hc.fz 5; clear HC hc; have HC := nc; clear nc))
        go_region_held3 (fun w' => w'.cell? ⟨g, 5, none⟩ = some (.int .i64 a)) (first | exact HC.out.c5 | exact (HC.out.set_fx _).c5 | exact (HC.out.set_fx _).drew1.c5) (first | (go_at_call 66; (with_reducible refine (many_calls (by first | exact HC.out | exact HC.out.drew1 | exact HC.out.drewN _ : CW w0 _ g m L s (p + 1 + a) _ n) 35 ?s1 HR.out.1.2 HP.out.2).mono ?_); (case s1 => have := HP.out; omega); rw [HA.out.2]; rintro e w1 ⟨rfl, hc⟩; have e6 := hc.c6; have z6 := hc.fz 6; have nc := Aside0.mk hc; clear HC hc; have HC := nc; clear nc))
        go_wp2
        go_meet
        case rel => exact ⟨p + 1 + a + b, _, HF2, ⟨by have := HR.out; omega⟩, ⟨by first | exact HC.out.set_fx (a + b) | exact (HC.out.set_fx (a + b)).drew1 | exact (HC.out.set_fx (a + b)).drewN _⟩⟩
  case rest =>
    obtain ⟨q, h', HF, HI, HC'⟩ := hcut
    clear HC
    have HC := HC'
    clear HC'
    have q0 : 0 ≤ q := by have := HP.out; have := HI.out; omega
    have q1 : q ≤ (s.size : Int) := HI.out.2
    have q2 : q.toNat ≤ s.size := by omega
    have q3 : q ≤ 128 := by have := HP.out; omega
    have q4 : 0 ≤ p := HP.out.1.1
    have q5 : p ≤ q := HI.out.1
    have n0 := HN.out.1
    have n1 := HN.out.2
    have HT := Aside0.mk (show tailF s p h = some (expF s q h') by unfold tailF; rw [HF.out]; rfl)
    obtain ⟨u, hu⟩ : ∃ u, s.extract q.toNat s.size = u := ⟨_, rfl⟩
    have HU := Aside0.mk hu
    have e0 := HC.out.c0
    have e1 := HC.out.c1
    have e14 := HC.out.c14
    have z14 := HC.out.fz 14
    clear HF
    go_wp2
    go_quiet (fail)
    have HX2 := Aside0.mk (show (Lib.hasPrefix u.data.toList [69, 48] || Lib.hasPrefix u.data.toList [69, 43, 48]) = expB s q by rw [← HU.out]; rfl)
    obtain ⟨wo, rfl⟩ : ∃ wo : World, wo = wc := ⟨_, rfl⟩
    go_upto_region 8 with (fail)
    go_cut [49] (fun v wc => v = .bool (expB s q) ∧ Aside0 (CW w0 wc g m L s q h' n))
    case first =>
      cases hx1 : Lib.hasPrefix u.data.toList [69, 48]
      all_goals cases hx2 : Lib.hasPrefix u.data.toList [69, 43, 48]
      all_goals
        have HX3 := HX2.out
        rw [hx1, hx2] at HX3
        have HX4 := Aside0.mk HX3
        clear HX3
        go_wp2_with (go_at_call 67; (with_reducible refine (Try.strings_HasPrefix u _ _).mono ?_); rintro e w1 ⟨rfl, rfl⟩)
        go_meet
        case rel => exact ⟨by rw [← HX4.out]; rfl, ⟨HC.out.drewN _⟩⟩
    case rest =>
      obtain ⟨rfl, HC'⟩ := hcut
      clear HC e0 e1 e14 z14
      have HC := HC'
      clear HC'
      have e1 := HC.out.c1
      have z1 := HC.out.fz 1
      obtain ⟨wp, rfl⟩ : ∃ wp : World, wp = wc := ⟨_, rfl⟩
      have HB := Aside0.mk (Eq.refl (expB s q))
      go_upto_if 49 with (fail)
      go_cut [] (fun wc => Aside0 (CW w0 wc g m L s (expF s q h').1 (expF s q h').2 n))
      case first =>
        cases hx : expB s q with
        | false =>
          have HX := Aside0.mk (show expF s q h' = (q, h') by unfold expF; rw [if_neg (by rw [hx]; decide)])
          go_wp2
          go_meet
          case rel => rw [HX.out]; exact HC
        | true =>
          have hi := exp_in q0 hx
          have nr := next_range (b := 43) hi
          have HX := Aside0.mk (show expF s q h' = (nextP s (q + 1) 43 + runN s 48 (nextP s (q + 1) 43), {h' with ep := bAt s (q + 1) 43, em := runN s 48 (nextP s (q + 1) 43)}) by unfold expF; rw [if_pos hx])
          have HI2 := Aside0.mk (And.intro hi nr)
          clear hx hi nr
          go_wp2_with (first | (go_at_call 27; (with_reducible refine (next_calls (HC.out.set_at (q + 1)) 43 ?s1 HP.out.2).mono ?_); (case s1 => omega); rintro e w1 ⟨rfl, hc⟩; have e10 := hc.c10; have z10 := hc.fz 10; have nc := Aside0.mk (hc.set_ep (bAt s (q + 1) 43)); clear HC hc e1 z1; have HC := nc; clear nc) | (go_at_call 66; (with_reducible refine (many_calls HC.out 48 ?s1 HI2.out.2.2 HP.out.2).mono ?_); (case s1 => have := HI2.out; omega); rintro e w1 ⟨rfl, hc⟩; have e9 := hc.c9; have z9 := hc.fz 9; have nc := Aside0.mk (hc.set_em (runN s 48 (nextP s (q + 1) 43))); clear HC hc; have HC := nc; clear nc))
          go_meet
          case rel => rw [HX.out]; exact HC
      case rest =>
        have hcut2 := hcut
        clear hcut HC e1 z1
        have HC := hcut2
        clear hcut2
        have HR := Aside0.mk (exp_range q0 q1 h')
        obtain ⟨y, hy⟩ : ∃ y, expF s q h' = y := ⟨_, rfl⟩
        rw [hy] at HC HR
        have HY := Aside0.mk (HT.out.trans (congrArg some hy))
        clear hy
        have k0 : q ≤ y.1 := HR.out.1
        have k1 : y.1 ≤ 128 := by have := HR.out; have := HP.out; omega
        have w1 : IntKind.i64.wrap (y.1 - p) = y.1 - p := IntWalk.i64_in _ (by omega)
        have w2 : IntKind.i64.wrap (n + (y.1 - p)) = n + (y.1 - p) := IntWalk.i64_in _ (by omega)
        go_wp2
        refine wp_region_still_tail 13 (by kernel_rfl) (by kernel_rfl) ?_
        simp only [List.take_succ_cons, List.take_zero, List.drop_succ_cons, List.drop_zero]
        have HD : Aside0 (CW w0 ({ wc with drawn := wc.drawn + 1 } : World) g m L s y.1 y.2 n) := ⟨HC.out.drew1⟩
        generalize ({ wc with drawn := wc.drawn + 1 } : World) = wd at HD ⊢
        have a1 := HD.out.c1
        have a14 := HD.out.c14
        have z14 := HD.out.fz 14
        repeat still_step
        refine wpStill_nil ?_
        go_wp2
        go_ret
        rw [HY.out]
        exact ⟨rfl, HD.out.set_long _⟩
def lastG (G : List Int) : Int := rd G ((G.length : Int) - 1)
def groupF (G : List Int) (z : Int) (h : Sb) : Option Sb :=
  if (decide (3 < G.length) || lastG G == 0) = true then none else some {h with im := z, pr := if 1 < G.length then lastG G else h.pr, se := if 2 < G.length then rd G 1 else h.se}
def RowI (w : World) (base : Nat) (A : Option Addr) (c : Nat) (G : List Int) : Prop := Kd.R (Kd.int .i64) 3 w base (fun _ => True) (.slice A G.length c) G
theorem ne348 : ∀ q, q ∈ (3 : Nat) :: (Kd.int .i64).E → q ≠ 48 := by
  intro q hq
  have : q = 3 := by simpa [Kd.int, Kd.scalar] using hq
  rw [this]; decide
theorem ne533 : ∀ q, q ∈ (53 : Nat) :: k53.E → q ≠ 3 := by
  intro q hq
  have : q = 53 := aP40
  rw [this]; decide
theorem RowI.set {w : World} {base g : Nat} {A : Option Addr} {c : Nat} {G : List Int} {cs : Array Value} (h : RowI w base A c G) (hb : w.heap[g]? = some (.cells cs 48 (0, 0))) (i : Nat) (v : Value) : RowI (w.setCell ⟨g, i, none⟩ v) base A c G := Kd.R_set h hb ne348 i v
theorem RowI.step {w w1 : World} {base : Nat} {A : Option Addr} {c : Nat} {G : List Int} (h : RowI w base A c G) (hb : Below w.heap.size w w1) : RowI w1 base A c G := Kd.R_below h hb
theorem RowI.form {w : World} {base : Nat} {A : Option Addr} {c : Nat} {G : List Int} (h : RowI w base A c G) (hp : 0 < G.length) : ∃ k, A = some ⟨k, 0, none⟩ ∧ base ≤ k := by
  obtain ⟨k, c', e, hb, _⟩ := Kd.R_form h hp
  injection e with e
  exact ⟨k, e, hb⟩
theorem RowI.at_ {w : World} {base k : Nat} {c : Nat} {G : List Int} (h : RowI w base (some ⟨k, 0, none⟩) c G) (j : Nat) (hj : j < G.length) : w.cell? ⟨k, j, none⟩ = some (.int .i64 (rd G j)) := by
  obtain ⟨ad, e, hx⟩ := Kd.at_int (Kd.R_reads' h).2.2 (j : Int) (by omega) (by omega)
  injection e with e
  subst e
  rw [add_plain, Int.toNat_natCast] at hx
  exact hx
theorem CW.grown {w0 w w1 : World} {g : Nat} {m : Mk} {L : Sl} {s : ByteArray} {p : Int} {h : Sb} {n : Int} (hh : CW w0 w g m L s p h n) {b : Nat} {v : Value} {ok : Nat → Prop} {G : List Int} (hv : Kd.R (Kd.int .i64) 3 w b ok v G) (hb : w0.heap.size ≤ b) (hrz : m.R.heap.size ≤ b) (hg : w.grownBy w1 v.ownBlock) : CW w0 w1 g m L s p h n := by
  have h1 := blk_grown hh.blk hg (Kd.R_ne hv hh.blk (by decide))
  obtain ⟨c1, hp⟩ := hh.rp
  obtain ⟨c2, hs⟩ := hh.rs
  obtain ⟨inner, ho⟩ := Kd.R_own hv
  exact ⟨hh.ge, h1, ⟨c1, Kd.R_over hp hv ne533 hg⟩, ⟨c2, Kd.R_over hs hv ne533 hg⟩, hh.below.grown hg hh.below.size (fun k hk => Nat.le_trans hb (own_base ho k hk)), Nat.le_trans hh.mw hg.size, hh.pc, hh.sc, Nat.le_trans hh.rz hg.size, fun k h1 h2 => (hg.block k (Nat.lt_of_lt_of_le h1 hh.rz) (fun e => by have := own_base ho k e.symm; omega)).trans (hh.kept k h1 h2)⟩
set_option maxHeartbeats 8000000 in
set_option maxRecDepth 100000 in
theorem grouped_calls {w0 w : World} {g : Nat} {m : Mk} {L : Sl} {s : ByteArray} {p : Int} {h : Sb} {n : Int} (hh : CW w0 w g m L s p h n) {base : Nat} {A : Option Addr} {c : Nat} {G : List Int} (ho : RowI w base A c G) (hG : 0 < G.length) (hl : G.length ≤ 1000) (z f : Int) (hf : 0 ≤ f ∧ f ≤ p ∧ p ≤ 128) :
    Calls Try.prog 65 #[.pointer (some ⟨g, 0, none⟩), .slice A G.length c, .int .i64 z, .int .i64 f] w (DoneL w0 g m L s (fun q => q - f) ((groupF G z h).map (fun y => (p, y)))) := by
  have HC := Aside0.mk hh
  have HO := Aside0.mk ho
  obtain ⟨k, rfl, hk⟩ := ho.form hG
  obtain ⟨f0, f1, f2⟩ := hf
  have hw0 : IntKind.i64.wrap (p - f) = p - f := IntWalk.i64_in _ (by omega)
  obtain ⟨j, hj⟩ : ∃ j : Nat, G.length = j + 1 := ⟨G.length - 1, by omega⟩
  have hw1 : IntKind.i64.wrap ((G.length : Int) - 1) = (j : Int) := by rw [show (G.length : Int) - 1 = (j : Int) by omega]; exact IntWalk.i64_in _ (by omega)
  have j0 := eq_true (show 0 ≤ (j : Int) by omega)
  have j1 := eq_true (show (j : Int) < (G.length : Int) by omega)
  have hlast : lastG G = rd G j := by unfold lastG; rw [show (G.length : Int) - 1 = (j : Int) by omega]
  have xj := ho.at_ j (by omega)
  have HJ := Aside0.mk (And.intro hj hlast)
  have HL := Aside0.mk (And.intro hG hl)
  clear hj hlast hl hG ho hh
  cases d3 : decide (3 < G.length) with
  | true =>
    have d3' : decide (3 < (G.length : Int)) = true := decide_eq_true (by have := of_decide_eq_true d3; omega)
    have HE := Aside0.mk (show groupF G z h = none by unfold groupF; rw [d3]; rfl)
    clear d3
    go_enter Try.func65, Try.ntmps65
    go_wp2
    go_ret
    rw [HE.out]
    exact ⟨rfl, HC.out.fl⟩
  | false =>
    have d3' : decide (3 < (G.length : Int)) = false := decide_eq_false (by have := of_decide_eq_false d3; omega)
    cases hz : (rd G j == 0) with
    | true =>
      have HE := Aside0.mk (show groupF G z h = none by unfold groupF; rw [HJ.out.2, hz, Bool.or_true]; rfl)
      clear d3
      go_enter Try.func65, Try.ntmps65
      go_wp2
      go_ret
      rw [HE.out]
      exact ⟨rfl, HC.out.fl⟩
    | false =>
      have HE := Aside0.mk (show groupF G z h = some {h with im := z, pr := if 1 < G.length then rd G j else h.pr, se := if 2 < G.length then rd G 1 else h.se} by unfold groupF; rw [HJ.out.2, hz, d3]; rfl)
      have z4 := HC.out.fz 4
      have e4 := HC.out.c4
      have HO4 := Aside0.mk (HO.out.set HC.out.blk 4 (.int .i64 z))
      have HC4 := Aside0.mk (HC.out.set_im z)
      have x4 := HO4.out.at_ j (by have := HJ.out; omega)
      have e7 := HC4.out.c7
      have z7 := HC4.out.fz 7
      by_cases d1 : 1 < G.length
      · have d1' : decide (1 < (G.length : Int)) = true := decide_eq_true (by omega)
        have HO7 := Aside0.mk (HO4.out.set HC4.out.blk 7 (.int .i64 (rd G j)))
        have HC7 := Aside0.mk (HC4.out.set_pr (rd G j))
        have x7 := HO7.out.at_ 1 d1
        have e8 := HC7.out.c8
        have z8 := HC7.out.fz 8
        have g1 := eq_true (show (1 : Int) < (G.length : Int) by omega)
        by_cases d2 : 2 < G.length
        · have d2' : decide (2 < (G.length : Int)) = true := decide_eq_true (by omega)
          have HE2 := Aside0.mk (show groupF G z h = some {h with im := z, pr := rd G j, se := rd G 1} by rw [HE.out, if_pos d1, if_pos d2])
          have HC8 := Aside0.mk (HC7.out.set_se (rd G 1))
          have e1 := HC8.out.c1
          have e14 := HC8.out.c14
          have z14 := HC8.out.fz 14
          clear d3 d1 d2
          go_enter Try.func65, Try.ntmps65
          go_wp2
          go_ret
          rw [HE2.out]
          exact ⟨rfl, HC8.out.set_long _⟩
        · have d2' : decide (2 < (G.length : Int)) = false := decide_eq_false (by omega)
          have HE2 := Aside0.mk (show groupF G z h = some {h with im := z, pr := rd G j} by rw [HE.out, if_pos d1, if_neg d2])
          have e1 := HC7.out.c1
          have e14 := HC7.out.c14
          have z14 := HC7.out.fz 14
          clear d3 d1 d2
          go_enter Try.func65, Try.ntmps65
          go_wp2
          go_ret
          rw [HE2.out]
          exact ⟨rfl, HC7.out.set_long _⟩
      · have d1' : decide (1 < (G.length : Int)) = false := decide_eq_false (by omega)
        have d2' : decide (2 < (G.length : Int)) = false := decide_eq_false (by omega)
        have HE2 := Aside0.mk (show groupF G z h = some {h with im := z} by rw [HE.out, if_neg d1, if_neg (by omega)])
        have e1 := HC4.out.c1
        have e14 := HC4.out.c14
        have z14 := HC4.out.fz 14
        clear d3 d1
        go_enter Try.func65, Try.ntmps65
        go_wp2
        go_ret
        rw [HE2.out]
        exact ⟨rfl, HC4.out.set_long _⟩
end Go.Proofs.Ytacnjemndfmbhaa.Q
end
section
namespace Go.Proofs.Ytacnjemndfmbhaa.Q
open Go.RowKit Go.Proofs.Ytacnjemndfmbhaa.A Go.Proofs.YtacnjemndfmbhaaW.PrintWords Go.Proofs.YtacnjemndfmbhaaW.PrintLast Go.Proofs.YtacnjemndfmbhaaW.PrintMore
set_option linter.unusedVariables false
theorem parse_calls (s : ByteArray) (w : World) (hG : Glob w) (hs : s.size ≤ 1048576) : Calls Try.prog 85 #[.string s] w fun e w' => ∃ A c, e = .returned (.tuple #[.slice A (parseT s).1.length (parseT s).1.length, .int .i64 (parseT s).2]) ∧ Kd.R k53 53 w' w.heap.size (fun k => w.heap.size ≤ k) (.slice A (parseT s).1.length c) (parseT s).1 ∧ Below w.heap.size w w' := by
  refine (parse_own s (parseT s).1 (parseT s).2 w hG (by rw [parseT_eq]; exact affixParse_eq s hs)).mono ?_
  rintro e w' ⟨v, he, ⟨A, c, hv, hr⟩, hb⟩
  subst hv
  exact ⟨A, c, he, hr, hb⟩
theorem parse_ok (s : ByteArray) (h : (parseT s).2 = 0) : checkS (parseT s).1 = 0 := by
  rw [parseT_eq] at h ⊢
  rw [checkS_eq]
  obtain ⟨_, l, t, _, _, h4, _⟩ := A.parse_ok s (L := (A.parseT s).1) (Prod.ext rfl h)
  exact h4
theorem parse_none (s : ByteArray) (h : (parseT s).2 ≠ 0) : (parseT s).1 = [] := by
  rw [parseT_eq] at h ⊢
  exact parse_error s h
theorem tok_nil : TokOk [] := by unfold TokOk Texts; simp
theorem parse_tok (s : ByteArray) (hs : s.size ≤ 1048576) : TokOk (parseT s).1 := by
  by_cases h : (parseT s).2 = 0
  · rw [parseT_eq] at h ⊢
    obtain ⟨_, l, t, _, _, _, h5, h6⟩ := A.parse_ok s (L := (A.parseT s).1) (Prod.ext rfl h)
    exact ⟨fun t ht => Nat.le_trans (h5 t ht) (by omega), by omega⟩
  · rw [parse_none s h]
    exact tok_nil
theorem check_nil : checkS [] = 0 := by rw [checkS_eq]; decide +kernel
end Go.Proofs.Ytacnjemndfmbhaa.Q
end
section
namespace Go.Proofs.Ytacnjemndfmbhaa.Q
open Go.RowKit Go.Proofs.Ytacnjemndfmbhaa.A Go.Proofs.YtacnjemndfmbhaaW.PrintWords Go.Proofs.YtacnjemndfmbhaaW.PrintLast Go.Proofs.YtacnjemndfmbhaaW.PrintMore
set_option linter.unusedVariables false
set_option linter.unusedSimpArgs false
def stopB (st : ByteArray) (b : Int) : Bool := decide (0 ≤ Lib.indexByte st.data.toList b.toNat.toUInt8)
def stopF (s st : ByteArray) : Nat → Bool → Int → Int
  | 0, _, p => p
  | d + 1, q, p => if bt s p = 39 then stopF s st d (!q) (p + 1) else if (!q && stopB st (bt s p)) = true then p else stopF s st d q (p + 1)
def stopN (s st : ByteArray) (p : Int) : Int := stopF s st ((s.size : Int) - p).toNat false p
theorem stopF_range (s st : ByteArray) : ∀ (d : Nat) (q : Bool) (p : Int), p ≤ stopF s st d q p ∧ stopF s st d q p ≤ p + d
  | 0, q, p => by simp [stopF]
  | d + 1, q, p => by
    unfold stopF
    split
    · have := stopF_range s st d (!q) (p + 1); omega
    · split
      · omega
      · have := stopF_range s st d q (p + 1); omega
theorem row_in {w w1 : World} {X : World} {A : Option Addr} {c : Nat} {xs : List S53} (hx : w.heap.size ≤ X.heap.size) (hr : Kd.R k53 53 w1 X.heap.size (fun k => X.heap.size ≤ k) (.slice A xs.length c) xs) : RowIn w1 w.heap.size (fun k => w.heap.size ≤ k) A xs :=
  ⟨c, Kd.R_mono (Kd.R_lower hr hx) (fun k hk => Nat.le_trans hx hk)⟩
set_option maxHeartbeats 8000000 in
set_option maxRecDepth 100000 in
theorem tokens_calls {w0 w : World} {g : Nat} {m : Mk} {L : Sl} {s : ByteArray} {p : Int} {h : Sb} {n : Int} (hG : Glob w0) (hh : CW w0 w g m L s p h n) (st : ByteArray) (h0 : 0 ≤ p) (hp : p ≤ s.size) (hs : s.size ≤ 128) :
    Calls Try.prog 64 #[.pointer (some ⟨g, 0, none⟩), .string st] w fun e w' => ∃ A, e = .returned (.tuple #[.slice A (parseT (s.extract p.toNat (stopN s st p).toNat)).1.length (parseT (s.extract p.toNat (stopN s st p).toNat)).1.length, .bool ((parseT (s.extract p.toNat (stopN s st p).toNat)).2 == 0)]) ∧ RowIn w' w.heap.size (fun k => w.heap.size ≤ k) A (parseT (s.extract p.toNat (stopN s st p).toNat)).1 ∧ CW w0 w' g m L s (stopN s st p) h n := by
  have HC := Aside0.mk hh
  have HG := Aside0.mk hG
  obtain ⟨E, hE⟩ : ∃ E, stopN s st p = E := ⟨_, rfl⟩
  have hr := stopF_range s st ((s.size : Int) - p).toNat false p
  rw [show stopF s st ((s.size : Int) - p).toNat false p = E from hE] at hr
  have HP := Aside0.mk (show (0 ≤ p ∧ p ≤ E ∧ E ≤ s.size) ∧ s.size ≤ 128 ∧ (s.extract p.toNat E.toNat).size ≤ 1048576 from ⟨by omega, hs, by rw [ByteArray.size_extract]; omega⟩)
  have HW := Aside0.mk (Nat.le_refl w.heap.size)
  have HE0 := Aside0.mk (show stopF s st ((s.size : Int) - p).toNat false p = E from hE)
  rw [hE]
  clear hh h0 hp hs hG hE hr
  have e0 := HC.out.c0
  have e1 := HC.out.c1
  go_enter Try.func64, Try.ntmps64
  go_wp2
  go_loopg [7] ((s.size : Int) - p).toNat (fun gk v7 wr => ∃ (q : Bool) (i : Int), v7 = .bool q ∧ Aside0 (p ≤ i ∧ (gk : Int) = s.size - i) ∧ Aside0 (stopF s st gk q i = E) ∧ Aside0 (w.heap.size ≤ wr.heap.size) ∧ Aside0 (CW w0 wr g m L s i h n))
  case atStart => exact ⟨false, p, rfl, ⟨by have := HP.out; omega⟩, HE0, HW, HC⟩
  case round =>
    clear HC HE0 HW e0 e1
    obtain ⟨q, i, rfl, HI, HE, HW, HC⟩ := hrel
    have e0 := HC.out.c0
    have e1 := HC.out.c1
    have z1 := HC.out.fz 1
    cases gk with
    | zero =>
      have hi : i = E := HE.out
      subst hi
      have d0 : decide (i < (s.size : Int)) = false := decide_eq_false (by have := HI.out; omega)
      have b1 : 0 ≤ p := HP.out.1.1
      have b2 : p ≤ i := HP.out.1.2.1
      have b3 : i ≤ (s.size : Int) := HP.out.1.2.2
      have b4 : p.toNat ≤ i.toNat := by omega
      have b5 : i.toNat ≤ s.size := by omega
      have b6 : 0 ≤ i := by omega
      go_wp2
      repeat (go_quiet (fail); try go_wp2)
      exact aP20
    | succ d =>
      have b0 : 0 ≤ i := by have := HI.out; have := HP.out; omega
      have b1 := eq_true b0
      have b2 : i < (s.size : Int) := by have := HI.out; omega
      have b3 := eq_true b2
      have d0 : decide (i < (s.size : Int)) = true := decide_eq_true b2
      have hx := bt_at s i
      have b4 : i ≤ 128 := by have := HP.out; omega
      have H := HE.out
      unfold stopF at H
      clear HE b2
      cases c1 : (bt s i == 39) with
      | true =>
        rw [if_pos (beq_iff_eq.mp c1)] at H
        have HE := Aside0.mk H
        clear H
        go_wp2
        repeat (go_quiet (fail); try go_wp2)
        go_roundg d
        case measure => omega
        case rel => exact ⟨!q, i + 1, by first | (with_reducible rfl) | rfl, ⟨by have := HI.out; omega⟩, HE, ⟨by rw [size_put]; exact HW.out⟩, ⟨(HC.out.drewN _).set_at _⟩⟩
      | false =>
        rw [if_neg (beq_eq_false_iff_ne.mp c1)] at H
        cases q with
        | true =>
          rw [if_neg (by simp)] at H
          have HE := Aside0.mk H
          clear H
          go_wp2
          repeat (go_quiet (fail); try go_wp2)
          go_roundg d
          case measure => omega
          case rel => exact ⟨true, i + 1, by first | (with_reducible rfl) | rfl, ⟨by have := HI.out; omega⟩, HE, ⟨by rw [size_put]; exact HW.out⟩, ⟨(HC.out.drewN _).set_at _⟩⟩
        | false =>
          cases c2 : stopB st (bt s i) with
          | false =>
            rw [if_neg (by rw [c2]; decide)] at H
            have HE := Aside0.mk H
            have c3 : decide (0 ≤ Lib.indexByte st.data.toList (bt s i).toNat.toUInt8) = false := c2
            clear H
            go_wp2
            repeat (go_quiet (fail); try go_wp2_with (go_at_call 84; (with_reducible refine (Try.strings_IndexByte st (bt s i) _).mono ?_); rintro e w1 ⟨rfl, rfl⟩))
            go_roundg d
            case measure => omega
            case rel => exact ⟨false, i + 1, by first | (with_reducible rfl) | rfl, ⟨by have := HI.out; omega⟩, HE, ⟨by rw [size_put]; exact HW.out⟩, ⟨(HC.out.drewN _).set_at _⟩⟩
          | true =>
            rw [if_pos (by rw [c2]; rfl)] at H
            subst H
            have c3 : decide (0 ≤ Lib.indexByte st.data.toList (bt s i).toNat.toUInt8) = true := c2
            have q1 : 0 ≤ p := HP.out.1.1
            have q2 : p ≤ i := HP.out.1.2.1
            have q3 : i ≤ (s.size : Int) := HP.out.1.2.2
            have q4 : p.toNat ≤ i.toNat := by omega
            have q5 : i.toNat ≤ s.size := by omega
            go_wp2
            repeat (go_quiet (fail); try go_wp2_with (go_at_call 84; (with_reducible refine (Try.strings_IndexByte st (bt s i) _).mono ?_); rintro e w1 ⟨rfl, rfl⟩))
            exact aP20
def bump (G : List Int) : List Int := G.set (G.length - 1) (lastG G + 1)
def plF (s : ByteArray) : Nat → Int → List Int → Int → Option (Int × List Int × Int)
  | 0, p, G, z => some (p, G, z)
  | d + 1, p, G, z =>
    if bt s p = 35 then (if 0 < z then none else plF s d (p + 1) (bump G) z)
    else if bt s p = 48 then plF s d (p + 1) (bump G) (z + 1)
    else if bt s p = 44 then (if lastG G = 0 then none else plF s d (p + 1) (G ++ [0]) z)
    else some (p, G, z)
def placesF (s : ByteArray) (p : Int) (h : Sb) : Option (Int × Sb) :=
  (plF s ((s.size : Int) - p).toNat p [0] 0).bind fun x => (groupF x.2.1 x.2.2 h).map (fun y => (x.1, y))
theorem bump_len (G : List Int) : (bump G).length = G.length := by unfold bump; simp
theorem infoI3 : (Try.prog.info? 3).map (fun i => (i.zero, i.size, i.bytes)) = some (some (.int .i64 0), 1, 8) := by kernel_rfl
theorem last_snoc (G : List Int) : lastG (G ++ [0]) = 0 := by
  unfold lastG rd
  rw [List.length_append, show ((G.length + [(0 : Int)].length : Nat) : Int) - 1 = (G.length : Int) by simp, Int.toNat_natCast]
  simp [List.getD]
theorem row_bump {w : World} {base k c : Nat} {G : List Int} (h : RowI w base (some ⟨k, 0, none⟩) c G) {j : Nat} (hj : G.length = j + 1) (hl : lastG G = rd G j) : RowI (w.setCell ⟨k, j, none⟩ (.int .i64 (rd G j + 1))) base (some ⟨k, 0, none⟩) c (bump G) ∧ w.grownBy (w.setCell ⟨k, j, none⟩ (.int .i64 (rd G j + 1))) (some k) := by
  have hp := Kd.R_putg h (j : Int) (rd G j + 1)
  rw [Int.toNat_natCast] at hp
  refine ⟨?_, hp.2⟩
  unfold RowI bump
  rw [hl, show G.length - 1 = j by omega, List.length_set]
  exact hp.1
theorem bump_facts (G : List Int) (h : 0 < G.length) : (bump G).length = G.length ∧ lastG (bump G) = lastG G + 1 := by
  refine ⟨bump_len G, ?_⟩
  unfold lastG
  rw [bump_len]
  obtain ⟨j, hj⟩ : ∃ j : Nat, G.length = j + 1 := ⟨G.length - 1, by omega⟩
  rw [show (G.length : Int) - 1 = (j : Int) by omega]
  unfold rd bump
  rw [Int.toNat_natCast, show G.length - 1 = j by omega]
  simp [List.getD, hj]
  unfold lastG rd
  rw [show (G.length : Int) - 1 = (j : Int) by omega]
  simp [List.getD, show j < G.length by omega]
set_option maxHeartbeats 16000000 in
set_option maxRecDepth 100000 in
theorem places_calls {w0 w : World} {g : Nat} {m : Mk} {L : Sl} {s : ByteArray} {p : Int} {h : Sb} {n : Int} (hh : CW w0 w g m L s p h n) (h0 : 0 ≤ p) (hp : p ≤ s.size) (hs : s.size ≤ 128) :
    Calls Try.prog 41 #[.pointer (some ⟨g, 0, none⟩)] w (DoneL w0 g m L s (fun q => q - p) (placesF s p h)) := by
  have HC := Aside0.mk hh
  have HP := Aside0.mk (show 0 ≤ p ∧ p ≤ s.size ∧ s.size ≤ 128 from ⟨h0, hp, hs⟩)
  have HW := Aside0.mk hh.below.size
  have HRZ := Aside0.mk hh.rz
  obtain ⟨R, hR⟩ : ∃ R, plF s ((s.size : Int) - p).toNat p [0] 0 = R := ⟨_, rfl⟩
  have HT := Aside0.mk (show placesF s p h = R.bind fun x => (groupF x.2.1 x.2.2 h).map (fun y => (x.1, y)) by unfold placesF; rw [hR])
  have HR0 := Aside0.mk hR
  clear hh h0 hp hs hR
  have e1 := HC.out.c1
  go_enter Try.func41, Try.ntmps41
  go_wp2_with (first | ((with_reducible refine gate_dst (N := 11) rfl ?_); refine Kd.R_lit (Kd.int .i64) _ 3 ?hg (N := 11) ?hd (xs := ([0] : List Int)) (inner := [.int .i64 0]) (ok := fun _ => True) (okp := fun _ => True) ?hr ?hp (fun _ hk => hk) trivial (Below.refl _ _) (Nat.le_refl _) (by simp) ?_; (case hd => rfl); (case hg => rfl); (case hr => first | (go_simp; done) | (go_simp; rfl)); (case hp => exact (Reps.one (show Kd.M (Kd.int .i64) _ _ _ 0 [.int .i64 0] from rfl) (Reps.none _ _))); intro v1 w1 ho hb hg_ hnew_; clear hg_ hnew_; have nc := Aside0.mk (HC.out.step hb); have HWR := Aside0.mk hb.size; clear HC e1; have HC := nc; clear nc hb; obtain ⟨A, c, ev⟩ := Kd.R_slice ho; subst ev; have HO := Aside0.mk (show RowI w1 w.heap.size A c [0] from ho); clear ho))
  go_loopg [4, 5] ((s.size : Int) - p).toNat (fun gk v4 v5 wr => ∃ (A : Option Addr) (c : Nat) (G : List Int) (z i : Int), v4 = .slice A G.length c ∧ v5 = .int .i64 z ∧ Aside0 (p ≤ i ∧ (gk : Int) = s.size - i ∧ 0 ≤ z ∧ z ≤ i ∧ 0 < G.length ∧ (G.length : Int) ≤ 1 + i ∧ 0 ≤ lastG G ∧ lastG G ≤ i) ∧ Aside0 (plF s gk i G z = R) ∧ Aside0 (w.heap.size ≤ wr.heap.size) ∧ Aside0 (RowI wr w.heap.size A c G) ∧ Aside0 (CW w0 wr g m L s i h n))
  case atStart => exact ⟨A, c, [0], 0, p, rfl, rfl, ⟨by have := HP.out; simp [lastG, rd]; omega⟩, HR0, HWR, HO, HC⟩
  case round =>
    clear HC HR0 HO HWR
    obtain ⟨A, c, G, z, i, rfl, rfl, HI, HE, HWR, HO, HC⟩ := hrel
    have e0 := HC.out.c0
    have e1 := HC.out.c1
    have z1 := HC.out.fz 1
    obtain ⟨k, rfl, hk⟩ := HO.out.form HI.out.2.2.2.2.1
    cases gk with
    | zero =>
      have hi : R = some (i, G, z) := HE.out.symm
      have HRR := Aside0.mk (show placesF s p h = (groupF G z h).map (fun y => (i, y)) by rw [HT.out, hi]; rfl)
      have d0 : decide (i < (s.size : Int)) = false := decide_eq_false (by have := HI.out; omega)
      exact aP21
    | succ d =>
      have b0 : 0 ≤ i := by have := HI.out; have := HP.out; omega
      have b1 := eq_true b0
      have b2 : i < (s.size : Int) := by have := HI.out; omega
      have b3 := eq_true b2
      have d0 : decide (i < (s.size : Int)) = true := decide_eq_true b2
      have hx := bt_at s i
      have b4 : i ≤ 128 := by have := HP.out; omega
      have zz0 : 0 ≤ z := HI.out.2.2.1
      have zz1 : z ≤ 128 := by have := HI.out; omega
      have H := HE.out
      unfold plF at H
      clear HE b2
      obtain ⟨j, hj⟩ : ∃ j : Nat, G.length = j + 1 := ⟨G.length - 1, by have := HI.out; omega⟩
      have hw1 : IntKind.i64.wrap ((G.length : Int) - 1) = (j : Int) := by rw [show (G.length : Int) - 1 = (j : Int) by omega]; exact IntWalk.i64_in _ (by have := HI.out; omega)
      have j0 := eq_true (show 0 ≤ (j : Int) by omega)
      have j1 := eq_true (show (j : Int) < (G.length : Int) by omega)
      have hlast : lastG G = rd G j := by unfold lastG; rw [show (G.length : Int) - 1 = (j : Int) by omega]
      have xj := HO.out.at_ j (by omega)
      have HJ := Aside0.mk (And.intro hj hlast)
      have hw2 : IntKind.i64.wrap (rd G j + 1) = rd G j + 1 := IntWalk.i64_in _ (by have := HI.out; rw [← hlast]; omega)
      have HPUT := Aside0.mk (fun d : Nat => row_bump (HO.out.step (pw_below_drewN (Below.refl _ _) d)) hj hlast)
      have HBL := Aside0.mk (bump_facts G (by omega))
      have HCK := Aside0.mk (fun d : Nat => CW.grown (HC.out.drewN d) (HO.out.step (pw_below_drewN (Below.refl _ _) d)) HW.out HRZ.out (HPUT.out d).2)
      have y1 := fun d => (HCK.out d).c1
      have y2 := fun d => (HCK.out d).fz 1
      have yf := (Kd.R_celln 0 HO.out (j : Int) (by omega) (by omega)).2
      rw [Int.toNat_natCast] at yf
      clear hj hlast
      cases c1 : (bt s i == 35) with
      | true =>
        rw [if_pos (beq_iff_eq.mp c1)] at H
        cases c2 : decide (0 < z) with
        | true =>
          rw [if_pos (of_decide_eq_true c2)] at H
          have HRR := Aside0.mk (show placesF s p h = none by rw [HT.out, ← H]; rfl)
          clear H
          go_wp2
          repeat (go_quiet (fail); try go_wp2)
          go_ret
          rw [HRR.out]
          exact ⟨rfl, (HC.out.drewN _).fl⟩
        | false =>
          rw [if_neg (of_decide_eq_false c2)] at H
          have HE := Aside0.mk H
          clear H
          go_wp2
          repeat (go_quiet (fail); try go_wp2)
          go_roundg d
          case measure => omega
          case rel => exact ⟨some ⟨k, 0, none⟩, c, bump G, z, i + 1, by rw [HBL.out.1], by first | (with_reducible rfl) | rfl, ⟨by have := HI.out; have := HBL.out; omega⟩, HE, ⟨by rw [size_put, size_put]; exact HWR.out⟩, ⟨((HPUT.out _).1).set (HCK.out _).blk 1 _⟩, ⟨(HCK.out _).set_at _⟩⟩
      | false =>
        rw [if_neg (beq_eq_false_iff_ne.mp c1)] at H
        cases c2 : (bt s i == 48) with
        | true =>
          rw [if_pos (beq_iff_eq.mp c2)] at H
          have HE := Aside0.mk H
          clear H
          go_wp2
          repeat (go_quiet (fail); try go_wp2)
          go_roundg d
          case measure => omega
          case rel => exact ⟨some ⟨k, 0, none⟩, c, bump G, z + 1, i + 1, by rw [HBL.out.1], by first | (with_reducible rfl) | rfl, ⟨by have := HI.out; have := HBL.out; omega⟩, HE, ⟨by rw [size_put, size_put]; exact HWR.out⟩, ⟨((HPUT.out _).1).set (HCK.out _).blk 1 _⟩, ⟨(HCK.out _).set_at _⟩⟩
        | false =>
          rw [if_neg (beq_eq_false_iff_ne.mp c2)] at H
          cases c3 : (bt s i == 44) with
          | true =>
            rw [if_pos (beq_iff_eq.mp c3)] at H
            cases c4 : (rd G j == 0) with
            | true =>
              rw [if_pos (by rw [HJ.out.2]; exact beq_iff_eq.mp c4)] at H
              have HRR := Aside0.mk (show placesF s p h = none by rw [HT.out, ← H]; rfl)
              clear H
              go_wp2
              repeat (go_quiet (fail); try go_wp2)
              go_ret
              rw [HRR.out]
              exact ⟨rfl, (HC.out.drewN _).fl⟩
            | false =>
              rw [if_neg (by rw [HJ.out.2]; exact beq_eq_false_iff_ne.mp c4)] at H
              have HE := Aside0.mk H
              have HLA := Aside0.mk (last_snoc G)
              clear H y1 y2
              go_wp2
              repeat (go_quiet (fail); try go_wp2_with (first | ((with_reducible refine gate_builtin (b := .append) (xs := #[.tmp 66, .tmp 67]) rfl ?_); at_builtin; refine Kd.R_append (Kd.int .i64) w.heap.size rfl (.tmp 66) (.tmp 67) 76 3 (.int .i64 0) 8 rfl Try.underlying76 infoI3 rfl (by decide) (by omega) (.slice (some ⟨k, 0, none⟩) G.length c) G 0 [.int .i64 0] (fun _ => True) (fun _ => False) rfl rfl ?aP (fun _ hk => hk.elim) ?aF ?aO (Below.refl _ _) ?aS ?aL ?_; (case aP => exact rfl); (case aF => exact (fun _ _ => trivial)); (case aO => exact (by (with_reducible repeat (first | apply Kd.R_alloc | apply Kd.R_drewN | apply Kd.R_drew)); exact HO.out)); (case aS => exact HWR.out); (case aL => have := HI.out; have := HP.out; omega); intro v2 w2 ho hb hg hat; have HWN := Aside0.mk (Nat.le_trans HWR.out hb.size); clear HWR; have HWR := HWN; clear HWN; have nc := Aside0.mk (CW.grown (HC.out.drewN _) (HO.out.step (pw_below_drewN (Below.refl _ _) _)) HW.out HRZ.out hg); clear HC HO; have HC := nc; clear nc hb hg hat; obtain ⟨A2, c2_, ev⟩ := Kd.R_slice ho; subst ev; have HO := Aside0.mk (show RowI w2 w.heap.size A2 c2_ (G ++ [0]) from ho); clear ho; have e1 := HC.out.c1; have z1 := HC.out.fz 1)))
              go_roundg d
              case measure => omega
              case rel => exact ⟨A2, c2_, G ++ [0], z, i + 1, by simp, by first | (with_reducible rfl) | rfl, ⟨by have := HI.out; rw [List.length_append, HLA.out]; simp; omega⟩, HE, ⟨by rw [size_put]; exact HWR.out⟩, ⟨HO.out.set HC.out.blk 1 _⟩, ⟨HC.out.set_at _⟩⟩
          | false =>
            rw [if_neg (beq_eq_false_iff_ne.mp c3)] at H
            have HRR := Aside0.mk (show placesF s p h = (groupF G z h).map (fun y => (i, y)) by rw [HT.out, ← H]; rfl)
            clear H
            exact aP21
section
variable {w0 w : World} {g : Nat} {m : Mk} {L : Sl} {s : ByteArray} {p : Int} {h : Sb} {n : Int}
set_option maxHeartbeats 2000000 in
theorem ahead_calls (hh : CW w0 w g m L s p h n) (h0 : 0 ≤ p) (hs : s.size ≤ 128) : Calls Try.prog 38 #[.pointer (some ⟨g, 0, none⟩)] w (Done w0 g m L s n (fillF s p h 0)) := by
  have HD := Aside0.mk (fill_calls hh 0 h0 hs)
  clear hh h0 hs
  go_enter Try.func38, Try.ntmps38
  go_wp2_with (go_at_call 63; (with_reducible refine (HD.out).mono ?_); intro e w1 hd; have he := done_ret hd; subst he; have HF := Aside0.mk hd; clear hd)
  go_ret
  exact HF.out
set_option maxHeartbeats 2000000 in
theorem aheadSuffix_calls (hh : CW w0 w g m L s p h n) (h0 : 0 ≤ p) (hs : s.size ≤ 128) : Calls Try.prog 43 #[.pointer (some ⟨g, 0, none⟩)] w (Done w0 g m L s n (fillF s p h 2)) := by
  have HD := Aside0.mk (fill_calls hh 2 h0 hs)
  clear hh h0 hs
  go_enter Try.func43, Try.ntmps43
  go_wp2_with (go_at_call 63; (with_reducible refine (HD.out).mono ?_); intro e w1 hd; have he := done_ret hd; subst he; have HF := Aside0.mk hd; clear hd)
  go_ret
  exact HF.out
noncomputable def fillIf (l : List S53) (s : ByteArray) (p : Int) (h : Sb) (k : Int) : Option (Int × Sb) := if l.length = 0 then some (p, h) else fillF s p h k
set_option maxHeartbeats 2000000 in
theorem behindPrefix_calls (hh : CW w0 w g m L s p h n) (h0 : 0 ≤ p) (hs : s.size ≤ 128) : Calls Try.prog 40 #[.pointer (some ⟨g, 0, none⟩)] w (Done w0 g m L s n (fillIf h.p s p h 1)) := by
  have HC := Aside0.mk hh
  have HD := Aside0.mk (fill_calls hh 1 h0 hs)
  have e2 := hh.c2
  have e := int_len h.p.length
  clear hh h0 hs
  cases c : (h.p.length == 0) with
  | true =>
    have HE := Aside0.mk (show fillIf h.p s p h 1 = some (p, h) by unfold fillIf; rw [if_pos (beq_iff_eq.mp c)])
    go_enter Try.func40, Try.ntmps40
    go_wp2
    go_ret
    rw [HE.out]
    exact ⟨rfl, HC.out⟩
  | false =>
    have HE := Aside0.mk (show fillIf h.p s p h 1 = fillF s p h 1 by unfold fillIf; rw [if_neg (beq_eq_false_iff_ne.mp c)])
    go_enter Try.func40, Try.ntmps40
    go_wp2_with (go_at_call 63; (with_reducible refine (HD.out).mono ?_); intro e w1 hd; have he := done_ret hd; subst he; have HF := Aside0.mk hd; clear hd)
    go_ret
    rw [HE.out]
    exact HF.out
set_option maxHeartbeats 2000000 in
theorem behind_calls (hh : CW w0 w g m L s p h n) (h0 : 0 ≤ p) (hs : s.size ≤ 128) : Calls Try.prog 45 #[.pointer (some ⟨g, 0, none⟩)] w (Done w0 g m L s n (fillIf h.s s p h 3)) := by
  have HC := Aside0.mk hh
  have HD := Aside0.mk (fill_calls hh 3 h0 hs)
  have e3 := hh.c3
  have e := int_len h.s.length
  clear hh h0 hs
  cases c : (h.s.length == 0) with
  | true =>
    have HE := Aside0.mk (show fillIf h.s s p h 3 = some (p, h) by unfold fillIf; rw [if_pos (beq_iff_eq.mp c)])
    go_enter Try.func45, Try.ntmps45
    go_wp2
    go_ret
    rw [HE.out]
    exact ⟨rfl, HC.out⟩
  | false =>
    have HE := Aside0.mk (show fillIf h.s s p h 3 = fillF s p h 3 by unfold fillIf; rw [if_neg (beq_eq_false_iff_ne.mp c)])
    go_enter Try.func45, Try.ntmps45
    go_wp2_with (go_at_call 63; (with_reducible refine (HD.out).mono ?_); intro e w1 hd; have he := done_ret hd; subst he; have HF := Aside0.mk hd; clear hd)
    go_ret
    rw [HE.out]
    exact HF.out
end
def stops1 : ByteArray := ⟨#[48, 49, 50, 51, 52, 53, 54, 55, 56, 57, 35, 64, 44, 46, 59, 42]⟩
def stops2 : ByteArray := ⟨#[59, 42]⟩
noncomputable def tokT (s st : ByteArray) (p : Int) : List S53 × Int := parseT (s.extract p.toNat (stopN s st p).toNat)
def DoneP (w0 : World) (g : Nat) (s : ByteArray) (n : Int) (F : World) (q : Int) (h : Sb) (b : Bool) (e : Ending) (w' : World) : Prop :=
  e = .returned (.bool b) ∧ ∃ m L, m.R = F ∧ CW w0 w' g m L s q h n
theorem CW.set_p {w0 w : World} {g : Nat} {m : Mk} {L : Sl} {s : ByteArray} {p : Int} {h : Sb} {n : Int} (hh : CW w0 w g m L s p h n) (hs : h.s = [] ∧ L.B = none) {A : Option Addr} {l : List S53} (hr : RowIn w w0.heap.size (fun k => w0.heap.size ≤ k) A l) : ∃ m', m'.R = m.R ∧ CW w0 (w.setCell ⟨g, 2, none⟩ (.slice A l.length l.length)) g m' ⟨A, l.length, L.B, L.d⟩ s p {h with p := l} n := by
  obtain ⟨c, hr⟩ := hr
  refine ⟨⟨w.heap.size, m.R⟩, rfl, hh.ge, blk_put hh.blk 2 _ rfl, ⟨c, Kd.R_set (Kd.R_mono (Kd.R_bound hr) (fun k hk => hk.2.2.1)) hh.blk ne5348 2 _⟩, ?_, below_set hh.below hh.ge, by rw [size_put]; exact Nat.le_refl _, Nat.le_refl _, hh.sc, by rw [size_put]; exact hh.rz, fun k h1 h2 => (Below.heap_setCell w _ _ k h2).trans (hh.kept k h1 h2)⟩
  show RowIn _ _ _ L.B h.s
  rw [hs.1, hs.2]
  exact RowIn.nil _ _ _
theorem CW.set_s {w0 w : World} {g : Nat} {m : Mk} {L : Sl} {s : ByteArray} {p : Int} {h : Sb} {n : Int} (hh : CW w0 w g m L s p h n) {A : Option Addr} {l : List S53} (hr : RowIn w w0.heap.size (fun k => m.m ≤ k) A l) : CW w0 (w.setCell ⟨g, 3, none⟩ (.slice A l.length l.length)) g m ⟨L.A, L.c, A, l.length⟩ s p {h with s := l} n :=
  ⟨hh.ge, blk_put hh.blk 3 _ rfl, row_set hh.rp hh.blk 3 _, row_set hr hh.blk 3 _, below_set hh.below hh.ge, by rw [size_put]; exact hh.mw, hh.pc, Nat.le_refl _, by rw [size_put]; exact hh.rz, fun k h1 h2 => (Below.heap_setCell w _ _ k h2).trans (hh.kept k h1 h2)⟩
set_option maxHeartbeats 4000000 in
set_option maxRecDepth 100000 in
theorem prefix_calls {w0 w : World} {g : Nat} {m : Mk} {L : Sl} {s : ByteArray} {p : Int} {h : Sb} {n : Int} (hG : Glob w0) (hh : CW w0 w g m L s p h n) (hs0 : h.s = [] ∧ L.B = none) (h0 : 0 ≤ p) (hp : p ≤ s.size) (hs : s.size ≤ 128) :
    Calls Try.prog 39 #[.pointer (some ⟨g, 0, none⟩)] w (DoneP w0 g s n m.R (stopN s stops1 p) {h with p := (tokT s stops1 p).1} ((tokT s stops1 p).2 == 0)) := by
  have HC := Aside0.mk hh
  have HB := Aside0.mk hh.below.size
  have HS0 := Aside0.mk hs0
  have HD := Aside0.mk (tokens_calls hG hh stops1 h0 hp hs)
  obtain ⟨E, hE⟩ : ∃ E, stopN s stops1 p = E := ⟨_, rfl⟩
  have HT := Aside0.mk (show tokT s stops1 p = parseT (s.extract p.toNat E.toNat) by unfold tokT; rw [hE])
  rw [hE] at HD
  rw [hE, HT.out]
  obtain ⟨T, hT⟩ : ∃ T, parseT (s.extract p.toNat E.toNat) = T := ⟨_, rfl⟩
  rw [hT] at HD ⊢
  clear hh h0 hs hE hT hG hp hs0 HT
  go_enter Try.func39, Try.ntmps39
  go_wp2_with (go_at_call 64; (refine (HD.out).mono ?_); rintro e w1 ⟨A, rfl, hr, hc⟩; have HR := Aside0.mk (show RowIn w1 w0.heap.size (fun k => w0.heap.size ≤ k) A T.1 from by obtain ⟨c, hr⟩ := hr; exact row_in HB.out hr); have z2 := hc.fz 2; have e2 := hc.c2; have HC1 := Aside0.mk hc; clear hr hc)
  go_ret
  exact ⟨rfl, by obtain ⟨m', hm', h'⟩ := HC1.out.set_p HS0.out HR.out; exact ⟨m', _, hm', h'⟩⟩
set_option maxHeartbeats 4000000 in
set_option maxRecDepth 100000 in
theorem suffix_calls {w0 w : World} {g : Nat} {m : Mk} {L : Sl} {s : ByteArray} {p : Int} {h : Sb} {n : Int} (hG : Glob w0) (hh : CW w0 w g m L s p h n) (h0 : 0 ≤ p) (hp : p ≤ s.size) (hs : s.size ≤ 128) :
    Calls Try.prog 44 #[.pointer (some ⟨g, 0, none⟩)] w (DoneP w0 g s n m.R (stopN s stops2 p) {h with s := (tokT s stops2 p).1} ((tokT s stops2 p).2 == 0)) := by
  have HC := Aside0.mk hh
  have HB := Aside0.mk hh.below.size
  have HD := Aside0.mk (tokens_calls hG hh stops2 h0 hp hs)
  obtain ⟨E, hE⟩ : ∃ E, stopN s stops2 p = E := ⟨_, rfl⟩
  have HT := Aside0.mk (show tokT s stops2 p = parseT (s.extract p.toNat E.toNat) by unfold tokT; rw [hE])
  rw [hE] at HD
  rw [hE, HT.out]
  obtain ⟨T, hT⟩ : ∃ T, parseT (s.extract p.toNat E.toNat) = T := ⟨_, rfl⟩
  rw [hT] at HD ⊢
  clear hh h0 hs hE hT hG hp HT
  go_enter Try.func44, Try.ntmps44
  go_wp2_with (go_at_call 64; (refine (HD.out).mono ?_); rintro e w1 ⟨A, rfl, hr, hc⟩; have HR := Aside0.mk (show RowIn w1 w0.heap.size (fun k => m.m ≤ k) A T.1 from by obtain ⟨c, hr⟩ := hr; exact ⟨c, Kd.R_mono (Kd.R_lower hr HB.out) (fun k hk => Nat.le_trans HC.out.mw hk)⟩); have z3 := hc.fz 3; have e3 := hc.c3; have HC1 := Aside0.mk hc; clear hr hc)
  go_ret
  exact ⟨rfl, m, _, rfl, HC1.out.set_s HR.out⟩
end Go.Proofs.Ytacnjemndfmbhaa.Q
end
section
namespace Go.Proofs.Ytacnjemndfmbhaa.Q
open Go.RowKit Go.Proofs.Ytacnjemndfmbhaa.A Go.Proofs.YtacnjemndfmbhaaW.PrintWords Go.Proofs.YtacnjemndfmbhaaW.PrintLast Go.Proofs.YtacnjemndfmbhaaW.PrintMore
set_option linter.unusedVariables false
set_option linter.unusedSimpArgs false
def zeroSb2 : Sb := ⟨[], [], 0, 0, 0, 0, 0, 0, false, ⟨#[]⟩, 0, 0⟩
structure St where
  p : Int
  h : Sb
  n : Int
noncomputable def stepS (s : ByteArray) : Nat → St → Option St
  | 0, y => (fillF s y.p y.h 0).map fun x => ⟨x.1, x.2, y.n⟩
  | 1, y => if (tokT s stops1 y.p).2 = 0 then some ⟨stopN s stops1 y.p, {y.h with p := (tokT s stops1 y.p).1}, y.n⟩ else none
  | 2, y => (fillIf y.h.p s y.p y.h 1).map fun x => ⟨x.1, x.2, y.n⟩
  | 3, y => (placesF s y.p y.h).map fun x => ⟨x.1, x.2, x.1 - y.p⟩
  | 4, y => (tailF s y.p y.h).map fun x => ⟨x.1, x.2, y.n + (x.1 - y.p)⟩
  | 5, y => (fillF s y.p y.h 2).map fun x => ⟨x.1, x.2, y.n⟩
  | 6, y => if (tokT s stops2 y.p).2 = 0 then some ⟨stopN s stops2 y.p, {y.h with s := (tokT s stops2 y.p).1}, y.n⟩ else none
  | _, y => (fillIf y.h.s s y.p y.h 3).map fun x => ⟨x.1, x.2, y.n⟩
noncomputable def runS (s : ByteArray) : List Nat → St → Option St
  | [], y => some y
  | i :: r, y => (stepS s i y).bind (runS s r)
noncomputable def widthS (y : St) : Sb := if y.h.pad.toList.isEmpty then y.h else {y.h with wd := runesT y.h.p + y.n + runesT y.h.s}
def funcs8 (g : Nat) : Array Value := #[.func (.func 38) #[.pointer (some ⟨g, 0, none⟩)] #[], .func (.func 39) #[.pointer (some ⟨g, 0, none⟩)] #[], .func (.func 40) #[.pointer (some ⟨g, 0, none⟩)] #[], .func (.func 41) #[.pointer (some ⟨g, 0, none⟩)] #[], .func (.func 42) #[.pointer (some ⟨g, 0, none⟩)] #[], .func (.func 43) #[.pointer (some ⟨g, 0, none⟩)] #[], .func (.func 44) #[.pointer (some ⟨g, 0, none⟩)] #[], .func (.func 45) #[.pointer (some ⟨g, 0, none⟩)] #[]]
theorem fillF_range {s : ByteArray} {p : Int} {h : Sb} {k : Int} {x : Int × Sb} (h0 : 0 ≤ p) (hp : p ≤ s.size) (hx : fillF s p h k = some x) : p ≤ x.1 ∧ x.1 ≤ s.size ∧ x.2.p = h.p ∧ x.2.s = h.s := by
  unfold fillF at hx
  split at hx
  · split at hx
    · exact absurd hx (by simp)
    · rename_i h1 h2
      obtain rfl := Option.some.inj hx
      have hz : runeS s (p + 1) ≠ 0 := fun e => h2 (by rw [e]; rfl)
      have := runeS_in s (p + 1) hz
      exact ⟨by show p ≤ p + 1 + runeS s (p + 1); omega, by show p + 1 + runeS s (p + 1) ≤ _; omega, rfl, rfl⟩
  · obtain rfl := Option.some.inj hx
    exact ⟨Int.le_refl _, hp, rfl, rfl⟩
theorem fillIf_range {l : List S53} {s : ByteArray} {p : Int} {h : Sb} {k : Int} {x : Int × Sb} (h0 : 0 ≤ p) (hp : p ≤ s.size) (hx : fillIf l s p h k = some x) : p ≤ x.1 ∧ x.1 ≤ s.size ∧ x.2.p = h.p ∧ x.2.s = h.s := by
  unfold fillIf at hx
  split at hx
  · obtain rfl := Option.some.inj hx
    exact ⟨Int.le_refl _, hp, rfl, rfl⟩
  · exact fillF_range h0 hp hx
theorem plF_range {s : ByteArray} : ∀ (d : Nat) (p : Int) (G : List Int) (z : Int) (x : Int × List Int × Int), p + d = s.size → plF s d p G z = some x → p ≤ x.1 ∧ x.1 ≤ s.size
  | 0, p, G, z, x, hp, h => by
    simp only [plF, Option.some.injEq] at h
    subst h
    exact ⟨Int.le_refl _, by show p ≤ _; omega⟩
  | d + 1, p, G, z, x, hp, h => by
    unfold plF at h
    split at h
    · split at h
      · exact absurd h (by simp)
      · have := plF_range d (p + 1) _ _ x (by omega) h; omega
    · split at h
      · have := plF_range d (p + 1) _ _ x (by omega) h; omega
      · split at h
        · split at h
          · exact absurd h (by simp)
          · have := plF_range d (p + 1) _ _ x (by omega) h; omega
        · obtain rfl := Option.some.inj h
          exact ⟨Int.le_refl _, by show p ≤ _; omega⟩
theorem groupF_rows {G : List Int} {z : Int} {h y : Sb} (hy : groupF G z h = some y) : y.p = h.p ∧ y.s = h.s := by
  unfold groupF at hy
  split at hy
  · exact absurd hy (by simp)
  · obtain rfl := Option.some.inj hy
    exact ⟨rfl, rfl⟩
theorem placesF_range {s : ByteArray} {p : Int} {h : Sb} {x : Int × Sb} (h0 : 0 ≤ p) (hp : p ≤ s.size) (hx : placesF s p h = some x) : p ≤ x.1 ∧ x.1 ≤ s.size ∧ x.2.p = h.p ∧ x.2.s = h.s := by
  unfold placesF at hx
  obtain ⟨y, hy, hx⟩ := Option.bind_eq_some_iff.mp hx
  obtain ⟨z, hz, rfl⟩ := Option.map_eq_some_iff.mp hx
  have r := plF_range _ _ _ _ _ (by omega) hy
  exact ⟨r.1, r.2, groupF_rows hz⟩
theorem tailF_range {s : ByteArray} {p : Int} {h : Sb} {x : Int × Sb} (h0 : 0 ≤ p) (hp : p ≤ s.size) (hx : tailF s p h = some x) : p ≤ x.1 ∧ x.1 ≤ s.size ∧ x.2.p = h.p ∧ x.2.s = h.s := by
  unfold tailF at hx
  obtain ⟨y, hy, rfl⟩ := Option.map_eq_some_iff.mp hx
  have hf : p ≤ y.1 ∧ y.1 ≤ s.size ∧ y.2.p = h.p ∧ y.2.s = h.s := by
    unfold fracF at hy
    split at hy
    · split at hy
      · exact absurd hy (by simp)
      · rename_i h1 h2
        obtain rfl := Option.some.inj hy
        have hi := bAt_in h1
        have r1 := run_range s 48 (p + 1) hi
        have r2 := run_range s 35 _ r1.2
        exact ⟨by show p ≤ p + 1 + runN s 48 (p + 1) + runN s 35 (p + 1 + runN s 48 (p + 1)); omega, r2.2, rfl, rfl⟩
    · obtain rfl := Option.some.inj hy
      exact ⟨Int.le_refl _, hp, rfl, rfl⟩
  have he := exp_range (s := s) (q := y.1) (by omega) hf.2.1 y.2
  refine ⟨by omega, he.2, ?_⟩
  unfold expF
  split
  · exact hf.2.2
  · exact hf.2.2
structure InvP (s : ByteArray) (i : Nat) (y : St) : Prop where
  p0 : 0 ≤ y.p
  p1 : y.p ≤ s.size
  tp : TokOk y.h.p
  cp : checkS y.h.p = 0
  ts : TokOk y.h.s
  cs : checkS y.h.s = 0
  s0 : i ≤ 1 → y.h.s = []
  n4 : i = 4 → 0 ≤ y.n ∧ y.n ≤ 128
  n5 : 4 < i → 0 ≤ y.n ∧ y.n ≤ 256
theorem stop_range {s st : ByteArray} {p : Int} (h0 : 0 ≤ p) (hp : p ≤ s.size) : p ≤ stopN s st p ∧ stopN s st p ≤ s.size := by
  have := stopF_range s st ((s.size : Int) - p).toNat false p
  unfold stopN
  omega
theorem tok_ok {s st : ByteArray} {p : Int} (hs : s.size ≤ 128) (h : (tokT s st p).2 = 0) : TokOk (tokT s st p).1 ∧ checkS (tokT s st p).1 = 0 :=
  ⟨parse_tok _ (by rw [ByteArray.size_extract]; omega), parse_ok _ h⟩
theorem inv_step {s : ByteArray} (hs : s.size ≤ 128) {i : Nat} (hi : i ≤ 7) {y y' : St} (h : InvP s i y) (he : stepS s i y = some y') : InvP s (i + 1) y' ∧ (i = 0 → y'.h.s = y.h.s) := by
  have hc : i = 0 ∨ i = 1 ∨ i = 2 ∨ i = 3 ∨ i = 4 ∨ i = 5 ∨ i = 6 ∨ i = 7 := by omega
  rcases hc with rfl | rfl | rfl | rfl | rfl | rfl | rfl | rfl
  · obtain ⟨x, hx, rfl⟩ := Option.map_eq_some_iff.mp (show (fillF s y.p y.h 0).map _ = _ from he)
    obtain ⟨r1, r2, r3, r4⟩ := fillF_range h.p0 h.p1 hx
    exact ⟨⟨by have := h.p0; show 0 ≤ x.1; omega, r2, by show TokOk x.2.p; rw [r3]; exact h.tp, by show checkS x.2.p = 0; rw [r3]; exact h.cp, by show TokOk x.2.s; rw [r4]; exact h.ts, by show checkS x.2.s = 0; rw [r4]; exact h.cs, fun _ => by show x.2.s = []; rw [r4]; exact h.s0 (by omega), fun e => by omega, fun e => by omega⟩, fun _ => r4⟩
  · have he' : (if (tokT s stops1 y.p).2 = 0 then some (⟨stopN s stops1 y.p, {y.h with p := (tokT s stops1 y.p).1}, y.n⟩ : St) else none) = some y' := he
    split at he'
    · obtain rfl := Option.some.inj he'
      have r := stop_range (st := stops1) h.p0 h.p1
      have t := tok_ok hs (by assumption)
      exact ⟨⟨by have := h.p0; show 0 ≤ stopN s stops1 y.p; omega, r.2, t.1, t.2, h.ts, h.cs, fun e => by omega, fun e => by omega, fun e => by omega⟩, fun e => by omega⟩
    · exact absurd he' (by simp)
  · obtain ⟨x, hx, rfl⟩ := Option.map_eq_some_iff.mp (show (fillIf y.h.p s y.p y.h 1).map _ = _ from he)
    obtain ⟨r1, r2, r3, r4⟩ := fillIf_range h.p0 h.p1 hx
    exact ⟨⟨by have := h.p0; show 0 ≤ x.1; omega, r2, by show TokOk x.2.p; rw [r3]; exact h.tp, by show checkS x.2.p = 0; rw [r3]; exact h.cp, by show TokOk x.2.s; rw [r4]; exact h.ts, by show checkS x.2.s = 0; rw [r4]; exact h.cs, fun e => by omega, fun e => by omega, fun e => by omega⟩, fun e => by omega⟩
  · obtain ⟨x, hx, rfl⟩ := Option.map_eq_some_iff.mp (show (placesF s y.p y.h).map _ = _ from he)
    obtain ⟨r1, r2, r3, r4⟩ := placesF_range h.p0 h.p1 hx
    exact ⟨⟨by have := h.p0; show 0 ≤ x.1; omega, r2, by show TokOk x.2.p; rw [r3]; exact h.tp, by show checkS x.2.p = 0; rw [r3]; exact h.cp, by show TokOk x.2.s; rw [r4]; exact h.ts, by show checkS x.2.s = 0; rw [r4]; exact h.cs, fun e => by omega, fun _ => by have := h.p0; show 0 ≤ x.1 - y.p ∧ x.1 - y.p ≤ 128; omega, fun e => by omega⟩, fun e => by omega⟩
  · obtain ⟨x, hx, rfl⟩ := Option.map_eq_some_iff.mp (show (tailF s y.p y.h).map _ = _ from he)
    obtain ⟨r1, r2, r3, r4⟩ := tailF_range h.p0 h.p1 hx
    have hn := h.n4 rfl
    exact ⟨⟨by have := h.p0; show 0 ≤ x.1; omega, r2, by show TokOk x.2.p; rw [r3]; exact h.tp, by show checkS x.2.p = 0; rw [r3]; exact h.cp, by show TokOk x.2.s; rw [r4]; exact h.ts, by show checkS x.2.s = 0; rw [r4]; exact h.cs, fun e => by omega, fun e => by omega, fun _ => by have := h.p0; show 0 ≤ y.n + (x.1 - y.p) ∧ y.n + (x.1 - y.p) ≤ 256; omega⟩, fun e => by omega⟩
  · obtain ⟨x, hx, rfl⟩ := Option.map_eq_some_iff.mp (show (fillF s y.p y.h 2).map _ = _ from he)
    obtain ⟨r1, r2, r3, r4⟩ := fillF_range h.p0 h.p1 hx
    exact aP22
  · have he' : (if (tokT s stops2 y.p).2 = 0 then some (⟨stopN s stops2 y.p, {y.h with s := (tokT s stops2 y.p).1}, y.n⟩ : St) else none) = some y' := he
    split at he'
    · obtain rfl := Option.some.inj he'
      have r := stop_range (st := stops2) h.p0 h.p1
      have t := tok_ok hs (by assumption)
      exact ⟨⟨by have := h.p0; show 0 ≤ stopN s stops2 y.p; omega, r.2, h.tp, h.cp, t.1, t.2, fun e => by omega, fun e => by omega, fun _ => h.n5 (by omega)⟩, fun e => by omega⟩
    · exact absurd he' (by simp)
  · obtain ⟨x, hx, rfl⟩ := Option.map_eq_some_iff.mp (show (fillIf y.h.s s y.p y.h 3).map _ = _ from he)
    obtain ⟨r1, r2, r3, r4⟩ := fillIf_range h.p0 h.p1 hx
    exact aP22
def KeepG (w w' : World) (g : Nat) : Prop := w.heap.size ≤ w'.heap.size ∧ ∀ k, k < w.heap.size → k ≠ g → w'.heap[k]? = w.heap[k]?
def DoneA (w0 w : World) (g : Nat) (s : ByteArray) (R : Option St) (e : Ending) (w' : World) : Prop :=
  match R with
  | none => e = .returned (.bool false) ∧ Below w0.heap.size w0 w' ∧ KeepG w w' g
  | some y => e = .returned (.bool true) ∧ InvP s 8 y ∧ KeepG w w' g ∧ ∃ m L, CW w0 w' g m L s y.p (widthS y) y.n
def stepsFrom (i : Nat) : List Nat := List.drop i [0, 1, 2, 3, 4, 5, 6, 7]
theorem CW.keep {w0 w : World} {g : Nat} {m : Mk} {L : Sl} {s : ByteArray} {p : Int} {h : Sb} {n : Int} (hh : CW w0 w g m L s p h n) : CW w0 w g ⟨m.m, w⟩ L s p h n :=
  ⟨hh.ge, hh.blk, hh.rp, hh.rs, hh.below, hh.mw, hh.pc, hh.sc, Nat.le_refl _, fun k _ _ => rfl⟩
theorem row_kept {w0 w wr : World} {g : Nat} {m : Mk} {L : Sl} {s : ByteArray} {p : Int} {h : Sb} {n : Int} (hh : CW w0 wr g m L s p h n) (hF : m.R = w.alloc (.cells (funcs8 g) 34)) (hg : w.heap.size ≠ g) : wr.heap[w.heap.size]? = some (.cells (funcs8 g) 34 (0, 0)) := by
  have := hh.kept w.heap.size (by rw [hF]; simp) hg
  rw [this, hF]
  exact heap_alloc_new _ _
theorem keepG_alloc {w w' : World} {g : Nat} {o : Obj} (hz : (w.alloc o).heap.size ≤ w'.heap.size) (h : ∀ k, k < (w.alloc o).heap.size → k ≠ g → w'.heap[k]? = (w.alloc o).heap[k]?) : KeepG w w' g := by
  have e : (w.alloc o).heap.size = w.heap.size + 1 := by simp
  exact ⟨by omega, fun k h1 h2 => (h k (by omega) h2).trans (heap_alloc_old _ _ h1)⟩
theorem keepG_fl {w0 w w' R : World} {g : Nat} {o : Obj} (hF : R = w.alloc o) (h : Fl w0 w' g R) : KeepG w w' g := by
  subst hF
  exact keepG_alloc h.2.1 h.2.2
set_option maxHeartbeats 16000000 in
set_option maxRecDepth 100000 in
theorem all_calls {w0 w : World} {g : Nat} {m : Mk} {L : Sl} {s : ByteArray} {p : Int} {n : Int} (hG : Glob w0) (hL : L.B = none) (hh : CW w0 w g m L s p zeroSb2 n) (h0 : 0 ≤ p) (hp : p ≤ s.size) (hs : s.size ≤ 128) :
    Calls Try.prog 26 #[.pointer (some ⟨g, 0, none⟩)] w (DoneA w0 w g s (runS s (stepsFrom 0) ⟨p, zeroSb2, n⟩)) := by
  have HG := Aside0.mk hG
  have HP := Aside0.mk hs
  have HC := Aside0.mk (hh.step (below_alloc (Below.refl _ _) (.cells (funcs8 g) 34))).keep
  have HGN := Aside0.mk (show w.heap.size ≠ g by have := blk_lt hh.blk; omega)
  have HGZ := Aside0.mk (show (w.alloc (.cells (funcs8 g) 34)).heap.size = w.heap.size + 1 by simp)
  have HI := Aside0.mk (show InvP s 0 ⟨p, zeroSb2, n⟩ from ⟨h0, hp, tok_nil, check_nil, tok_nil, check_nil, fun _ => rfl, fun e => by omega, fun e => by omega⟩)
  have HB := Aside0.mk hL
  obtain ⟨R, hR⟩ : ∃ R, runS s (stepsFrom 0) ⟨p, zeroSb2, n⟩ = R := ⟨_, rfl⟩
  have HR := Aside0.mk hR
  rw [hR]
  have hmf : ∀ (fn : Fn) (first cap : Array Value) (w : World), (Instr.makeFunc fn first cap).run Try.prog w = .ok (.func fn first cap) w := fun _ _ _ _ => rfl
  clear hh h0 hp hs hG hL hR
  go_enter Try.func26, Try.ntmps26
  go_wp2
  go_loopg [4, 23] 8 (fun gk v4 v23 wr => ∃ (i : Nat) (y : St) (m : Mk) (L : Sl), v23 = .int .i64 i ∧ Aside0 (i + gk = 8) ∧ Aside0 (InvP s i y) ∧ Aside0 (m.R = w.alloc (.cells (funcs8 g) 34)) ∧ Aside0 (i ≤ 1 → y.h.s = [] ∧ L.B = none) ∧ Aside0 (runS s (stepsFrom i) y = R) ∧ Aside0 (CW w0 wr g m L s y.p y.h y.n))
  case atStart => exact ⟨0, ⟨p, zeroSb2, n⟩, _, L, rfl, ⟨rfl⟩, HI, ⟨rfl⟩, ⟨fun _ => ⟨rfl, HB.out⟩⟩, HR, HC⟩
  case round =>
    clear HC HI HR HB
    obtain ⟨i, y, m, L, rfl, HGK, HI, HF, HB, HR, HC⟩ := hrel
    have hcase : i = 0 ∨ i = 1 ∨ i = 2 ∨ i = 3 ∨ i = 4 ∨ i = 5 ∨ i = 6 ∨ i = 7 ∨ i = 8 := by have := HGK.out; omega
    rcases hcase with rfl | rfl | rfl | rfl | rfl | rfl | rfl | rfl | rfl
    · obtain rfl : gk = 8 := by have := HGK.out; omega
      have xi : wr.cell? ⟨w.heap.size, 0, none⟩ = some (.func (.func 38) #[.pointer (some ⟨g, 0, none⟩)] #[]) := (blk_cell (row_kept HC.out HF.out HGN.out) 0).trans rfl
      have HS := Aside0.mk (show (stepS s 0 y).bind (runS s (stepsFrom 1)) = R from HR.out)
      cases hr : fillF s y.p y.h 0 with
      | none =>
        have HN := Aside0.mk (show R = none by rw [← HS.out]; show ((fillF s y.p y.h 0).map _).bind _ = none; rw [hr]; rfl)
        clear HR
        go_wp2_with (go_at_call 38; ((refine (ahead_calls HC.out HI.out.p0 HP.out).mono ?_); rw [hr]; rintro e w1 ⟨rfl, hb⟩; have HBL := Aside0.mk hb; clear hb))
        go_ret
        rw [HN.out]
        exact ⟨rfl, HBL.out.1, keepG_fl HF.out HBL.out⟩
      | some x =>
        have HN := Aside0.mk (show runS s (stepsFrom 1) ⟨x.1, x.2, y.n⟩ = R by rw [← HS.out]; show _ = ((fillF s y.p y.h 0).map _).bind _; rw [hr]; rfl)
        have HV := Aside0.mk (inv_step HP.out (i := 0) (by omega) HI.out (y' := ⟨x.1, x.2, y.n⟩) (show (fillF s y.p y.h 0).map _ = _ by rw [hr]; rfl))
        clear HR
        go_wp2_with (go_at_call 38; ((refine (ahead_calls HC.out HI.out.p0 HP.out).mono ?_); rw [hr]; rintro e w1 ⟨rfl, hc⟩; have nc := Aside0.mk hc; clear HC hc xi; have HC := nc; clear nc))
        go_roundg 7
        case measure => omega
        case rel => exact ⟨1, ⟨x.1, x.2, y.n⟩, m, L, by first | (with_reducible rfl) | rfl, ⟨by omega⟩, ⟨HV.out.1⟩, HF, ⟨fun _ => ⟨HV.out.1.s0 (by omega), (HB.out (by omega)).2⟩⟩, HN, HC⟩
    · obtain rfl : gk = 7 := by have := HGK.out; omega
      have xi : wr.cell? ⟨w.heap.size, 1, none⟩ = some (.func (.func 39) #[.pointer (some ⟨g, 0, none⟩)] #[]) := (blk_cell (row_kept HC.out HF.out HGN.out) 1).trans rfl
      have HS := Aside0.mk (show (stepS s 1 y).bind (runS s (stepsFrom 2)) = R from HR.out)
      cases hr : ((tokT s stops1 y.p).2 == 0) with
      | false =>
        have HN := Aside0.mk (show R = none by rw [← HS.out]; show (if (tokT s stops1 y.p).2 = 0 then _ else none).bind _ = none; rw [if_neg (beq_eq_false_iff_ne.mp hr)]; rfl)
        clear HR
        go_wp2_with (go_at_call 39; ((refine (prefix_calls HG.out HC.out (HB.out (by omega)) HI.out.p0 HI.out.p1 HP.out).mono ?_); rw [hr]; rintro e w1 ⟨rfl, m2, L2, hF, hc⟩; have HBL := Aside0.mk (show Fl w0 w1 g m.R by rw [← hF]; exact hc.fl); clear hc hF))
        go_ret
        rw [HN.out]
        exact ⟨rfl, HBL.out.1, keepG_fl HF.out HBL.out⟩
      | true =>
        have HN := Aside0.mk (show runS s (stepsFrom 2) ⟨stopN s stops1 y.p, {y.h with p := (tokT s stops1 y.p).1}, y.n⟩ = R by rw [← HS.out]; show _ = (if (tokT s stops1 y.p).2 = 0 then _ else none).bind _; rw [if_pos (beq_iff_eq.mp hr)]; rfl)
        have HV := Aside0.mk (inv_step HP.out (i := 1) (by omega) HI.out (y' := ⟨stopN s stops1 y.p, {y.h with p := (tokT s stops1 y.p).1}, y.n⟩) (show (if (tokT s stops1 y.p).2 = 0 then _ else none) = _ by rw [if_pos (beq_iff_eq.mp hr)]))
        clear HR
        go_wp2_with (go_at_call 39; ((refine (prefix_calls HG.out HC.out (HB.out (by omega)) HI.out.p0 HI.out.p1 HP.out).mono ?_); rw [hr]; rintro e w1 ⟨rfl, m2, L2, hF, hc⟩; have nc := Aside0.mk hc; have HF2 := Aside0.mk (hF.trans HF.out); clear HC hc xi hF; have HC := nc; clear nc))
        go_roundg 6
        case measure => omega
        case rel => exact ⟨2, ⟨stopN s stops1 y.p, {y.h with p := (tokT s stops1 y.p).1}, y.n⟩, m2, L2, by first | (with_reducible rfl) | rfl, ⟨by omega⟩, ⟨HV.out.1⟩, HF2, ⟨fun e => by omega⟩, HN, HC⟩
    · obtain rfl : gk = 6 := by have := HGK.out; omega
      have xi : wr.cell? ⟨w.heap.size, 2, none⟩ = some (.func (.func 40) #[.pointer (some ⟨g, 0, none⟩)] #[]) := (blk_cell (row_kept HC.out HF.out HGN.out) 2).trans rfl
      have HS := Aside0.mk (show (stepS s 2 y).bind (runS s (stepsFrom 3)) = R from HR.out)
      cases hr : fillIf y.h.p s y.p y.h 1 with
      | none =>
        have HN := Aside0.mk (show R = none by rw [← HS.out]; show ((fillIf y.h.p s y.p y.h 1).map _).bind _ = none; rw [hr]; rfl)
        clear HR
        go_wp2_with (go_at_call 40; ((refine (behindPrefix_calls HC.out HI.out.p0 HP.out).mono ?_); rw [hr]; rintro e w1 ⟨rfl, hb⟩; have HBL := Aside0.mk hb; clear hb))
        go_ret
        rw [HN.out]
        exact ⟨rfl, HBL.out.1, keepG_fl HF.out HBL.out⟩
      | some x =>
        have HN := Aside0.mk (show runS s (stepsFrom 3) ⟨x.1, x.2, y.n⟩ = R by rw [← HS.out]; show _ = ((fillIf y.h.p s y.p y.h 1).map _).bind _; rw [hr]; rfl)
        have HV := Aside0.mk (inv_step HP.out (i := 2) (by omega) HI.out (y' := ⟨x.1, x.2, y.n⟩) (show (fillIf y.h.p s y.p y.h 1).map _ = _ by rw [hr]; rfl))
        clear HR
        go_wp2_with (go_at_call 40; ((refine (behindPrefix_calls HC.out HI.out.p0 HP.out).mono ?_); rw [hr]; rintro e w1 ⟨rfl, hc⟩; have nc := Aside0.mk hc; clear HC hc xi; have HC := nc; clear nc))
        go_roundg 5
        case measure => omega
        case rel => exact ⟨3, ⟨x.1, x.2, y.n⟩, m, L, by first | (with_reducible rfl) | rfl, ⟨by omega⟩, ⟨HV.out.1⟩, HF, ⟨fun e => by omega⟩, HN, HC⟩
    · obtain rfl : gk = 5 := by have := HGK.out; omega
      have xi : wr.cell? ⟨w.heap.size, 3, none⟩ = some (.func (.func 41) #[.pointer (some ⟨g, 0, none⟩)] #[]) := (blk_cell (row_kept HC.out HF.out HGN.out) 3).trans rfl
      have HS := Aside0.mk (show (stepS s 3 y).bind (runS s (stepsFrom 4)) = R from HR.out)
      cases hr : placesF s y.p y.h with
      | none =>
        have HN := Aside0.mk (show R = none by rw [← HS.out]; show ((placesF s y.p y.h).map _).bind _ = none; rw [hr]; rfl)
        clear HR
        go_wp2_with (go_at_call 41; ((refine (places_calls HC.out HI.out.p0 HI.out.p1 HP.out).mono ?_); rw [hr]; rintro e w1 ⟨rfl, hb⟩; have HBL := Aside0.mk hb; clear hb))
        go_ret
        rw [HN.out]
        exact ⟨rfl, HBL.out.1, keepG_fl HF.out HBL.out⟩
      | some x =>
        have HN := Aside0.mk (show runS s (stepsFrom 4) ⟨x.1, x.2, x.1 - y.p⟩ = R by rw [← HS.out]; show _ = ((placesF s y.p y.h).map _).bind _; rw [hr]; rfl)
        have HV := Aside0.mk (inv_step HP.out (i := 3) (by omega) HI.out (y' := ⟨x.1, x.2, x.1 - y.p⟩) (show (placesF s y.p y.h).map _ = _ by rw [hr]; rfl))
        clear HR
        go_wp2_with (go_at_call 41; ((refine (places_calls HC.out HI.out.p0 HI.out.p1 HP.out).mono ?_); rw [hr]; rintro e w1 ⟨rfl, hc⟩; have nc := Aside0.mk hc; clear HC hc xi; have HC := nc; clear nc))
        go_roundg 4
        case measure => omega
        case rel => exact ⟨4, ⟨x.1, x.2, x.1 - y.p⟩, m, L, by first | (with_reducible rfl) | rfl, ⟨by omega⟩, ⟨HV.out.1⟩, HF, ⟨fun e => by omega⟩, HN, HC⟩
    · obtain rfl : gk = 4 := by have := HGK.out; omega
      have xi : wr.cell? ⟨w.heap.size, 4, none⟩ = some (.func (.func 42) #[.pointer (some ⟨g, 0, none⟩)] #[]) := (blk_cell (row_kept HC.out HF.out HGN.out) 4).trans rfl
      have HS := Aside0.mk (show (stepS s 4 y).bind (runS s (stepsFrom 5)) = R from HR.out)
      cases hr : tailF s y.p y.h with
      | none =>
        have HN := Aside0.mk (show R = none by rw [← HS.out]; show ((tailF s y.p y.h).map _).bind _ = none; rw [hr]; rfl)
        clear HR
        go_wp2_with (go_at_call 42; ((refine (fraction_calls HC.out HI.out.p0 HI.out.p1 HP.out ?sn).mono ?_); (case sn => have := HI.out.n4 rfl; omega); rw [hr]; rintro e w1 ⟨rfl, hb⟩; have HBL := Aside0.mk hb; clear hb))
        go_ret
        rw [HN.out]
        exact ⟨rfl, HBL.out.1, keepG_fl HF.out HBL.out⟩
      | some x =>
        have HN := Aside0.mk (show runS s (stepsFrom 5) ⟨x.1, x.2, y.n + (x.1 - y.p)⟩ = R by rw [← HS.out]; show _ = ((tailF s y.p y.h).map _).bind _; rw [hr]; rfl)
        have HV := Aside0.mk (inv_step HP.out (i := 4) (by omega) HI.out (y' := ⟨x.1, x.2, y.n + (x.1 - y.p)⟩) (show (tailF s y.p y.h).map _ = _ by rw [hr]; rfl))
        clear HR
        go_wp2_with (go_at_call 42; ((refine (fraction_calls HC.out HI.out.p0 HI.out.p1 HP.out ?sn).mono ?_); (case sn => have := HI.out.n4 rfl; omega); rw [hr]; rintro e w1 ⟨rfl, hc⟩; have nc := Aside0.mk hc; clear HC hc xi; have HC := nc; clear nc))
        go_roundg 3
        case measure => omega
        case rel => exact ⟨5, ⟨x.1, x.2, y.n + (x.1 - y.p)⟩, m, L, by first | (with_reducible rfl) | rfl, ⟨by omega⟩, ⟨HV.out.1⟩, HF, ⟨fun e => by omega⟩, HN, HC⟩
    · obtain rfl : gk = 3 := by have := HGK.out; omega
      have xi : wr.cell? ⟨w.heap.size, 5, none⟩ = some (.func (.func 43) #[.pointer (some ⟨g, 0, none⟩)] #[]) := (blk_cell (row_kept HC.out HF.out HGN.out) 5).trans rfl
      have HS := Aside0.mk (show (stepS s 5 y).bind (runS s (stepsFrom 6)) = R from HR.out)
      cases hr : fillF s y.p y.h 2 with
      | none =>
        have HN := Aside0.mk (show R = none by rw [← HS.out]; show ((fillF s y.p y.h 2).map _).bind _ = none; rw [hr]; rfl)
        clear HR
        go_wp2_with (go_at_call 43; ((refine (aheadSuffix_calls HC.out HI.out.p0 HP.out).mono ?_); rw [hr]; rintro e w1 ⟨rfl, hb⟩; have HBL := Aside0.mk hb; clear hb))
        go_ret
        rw [HN.out]
        exact ⟨rfl, HBL.out.1, keepG_fl HF.out HBL.out⟩
      | some x =>
        have HN := Aside0.mk (show runS s (stepsFrom 6) ⟨x.1, x.2, y.n⟩ = R by rw [← HS.out]; show _ = ((fillF s y.p y.h 2).map _).bind _; rw [hr]; rfl)
        have HV := Aside0.mk (inv_step HP.out (i := 5) (by omega) HI.out (y' := ⟨x.1, x.2, y.n⟩) (show (fillF s y.p y.h 2).map _ = _ by rw [hr]; rfl))
        clear HR
        go_wp2_with (go_at_call 43; ((refine (aheadSuffix_calls HC.out HI.out.p0 HP.out).mono ?_); rw [hr]; rintro e w1 ⟨rfl, hc⟩; have nc := Aside0.mk hc; clear HC hc xi; have HC := nc; clear nc))
        go_roundg 2
        case measure => omega
        case rel => exact ⟨6, ⟨x.1, x.2, y.n⟩, m, L, by first | (with_reducible rfl) | rfl, ⟨by omega⟩, ⟨HV.out.1⟩, HF, ⟨fun e => by omega⟩, HN, HC⟩
    · obtain rfl : gk = 2 := by have := HGK.out; omega
      have xi : wr.cell? ⟨w.heap.size, 6, none⟩ = some (.func (.func 44) #[.pointer (some ⟨g, 0, none⟩)] #[]) := (blk_cell (row_kept HC.out HF.out HGN.out) 6).trans rfl
      have HS := Aside0.mk (show (stepS s 6 y).bind (runS s (stepsFrom 7)) = R from HR.out)
      cases hr : ((tokT s stops2 y.p).2 == 0) with
      | false =>
        have HN := Aside0.mk (show R = none by rw [← HS.out]; show (if (tokT s stops2 y.p).2 = 0 then _ else none).bind _ = none; rw [if_neg (beq_eq_false_iff_ne.mp hr)]; rfl)
        clear HR
        go_wp2_with (go_at_call 44; ((refine (suffix_calls HG.out HC.out HI.out.p0 HI.out.p1 HP.out).mono ?_); rw [hr]; rintro e w1 ⟨rfl, m2, L2, hF, hc⟩; have HBL := Aside0.mk (show Fl w0 w1 g m.R by rw [← hF]; exact hc.fl); clear hc hF))
        go_ret
        rw [HN.out]
        exact ⟨rfl, HBL.out.1, keepG_fl HF.out HBL.out⟩
      | true =>
        have HN := Aside0.mk (show runS s (stepsFrom 7) ⟨stopN s stops2 y.p, {y.h with s := (tokT s stops2 y.p).1}, y.n⟩ = R by rw [← HS.out]; show _ = (if (tokT s stops2 y.p).2 = 0 then _ else none).bind _; rw [if_pos (beq_iff_eq.mp hr)]; rfl)
        have HV := Aside0.mk (inv_step HP.out (i := 6) (by omega) HI.out (y' := ⟨stopN s stops2 y.p, {y.h with s := (tokT s stops2 y.p).1}, y.n⟩) (show (if (tokT s stops2 y.p).2 = 0 then _ else none) = _ by rw [if_pos (beq_iff_eq.mp hr)]))
        clear HR
        go_wp2_with (go_at_call 44; ((refine (suffix_calls HG.out HC.out HI.out.p0 HI.out.p1 HP.out).mono ?_); rw [hr]; rintro e w1 ⟨rfl, m2, L2, hF, hc⟩; have nc := Aside0.mk hc; have HF2 := Aside0.mk (hF.trans HF.out); clear HC hc xi hF; have HC := nc; clear nc))
        go_roundg 1
        case measure => omega
        case rel => exact ⟨7, ⟨stopN s stops2 y.p, {y.h with s := (tokT s stops2 y.p).1}, y.n⟩, m2, L2, by first | (with_reducible rfl) | rfl, ⟨by omega⟩, ⟨HV.out.1⟩, HF2, ⟨fun e => by omega⟩, HN, HC⟩
    · obtain rfl : gk = 1 := by have := HGK.out; omega
      have xi : wr.cell? ⟨w.heap.size, 7, none⟩ = some (.func (.func 45) #[.pointer (some ⟨g, 0, none⟩)] #[]) := (blk_cell (row_kept HC.out HF.out HGN.out) 7).trans rfl
      have HS := Aside0.mk (show (stepS s 7 y).bind (runS s (stepsFrom 8)) = R from HR.out)
      cases hr : fillIf y.h.s s y.p y.h 3 with
      | none =>
        have HN := Aside0.mk (show R = none by rw [← HS.out]; show ((fillIf y.h.s s y.p y.h 3).map _).bind _ = none; rw [hr]; rfl)
        clear HR
        go_wp2_with (go_at_call 45; ((refine (behind_calls HC.out HI.out.p0 HP.out).mono ?_); rw [hr]; rintro e w1 ⟨rfl, hb⟩; have HBL := Aside0.mk hb; clear hb))
        go_ret
        rw [HN.out]
        exact ⟨rfl, HBL.out.1, keepG_fl HF.out HBL.out⟩
      | some x =>
        have HN := Aside0.mk (show runS s (stepsFrom 8) ⟨x.1, x.2, y.n⟩ = R by rw [← HS.out]; show _ = ((fillIf y.h.s s y.p y.h 3).map _).bind _; rw [hr]; rfl)
        have HV := Aside0.mk (inv_step HP.out (i := 7) (by omega) HI.out (y' := ⟨x.1, x.2, y.n⟩) (show (fillIf y.h.s s y.p y.h 3).map _ = _ by rw [hr]; rfl))
        clear HR
        go_wp2_with (go_at_call 45; ((refine (behind_calls HC.out HI.out.p0 HP.out).mono ?_); rw [hr]; rintro e w1 ⟨rfl, hc⟩; have nc := Aside0.mk hc; clear HC hc xi; have HC := nc; clear nc))
        go_roundg 0
        case measure => omega
        case rel => exact ⟨8, ⟨x.1, x.2, y.n⟩, m, L, by first | (with_reducible rfl) | rfl, ⟨by omega⟩, ⟨HV.out.1⟩, HF, ⟨fun e => by omega⟩, HN, HC⟩
    · obtain rfl : gk = 0 := by have := HGK.out; omega
      have HN := Aside0.mk (show R = some y from HR.out.symm)
      have e11 := HC.out.c11
      cases pe : y.h.pad.toList.isEmpty with
      | true =>
        have HE := Aside0.mk (show widthS y = y.h by unfold widthS; rw [if_pos pe])
        go_wp2
        go_ret
        rw [HN.out]
        exact ⟨rfl, HI.out, keepG_alloc (by rw [← HF.out]; exact HC.out.rz) (by rw [← HF.out]; exact HC.out.kept), m, L, by rw [HE.out]; exact HC.out⟩
      | false =>
        have HE := Aside0.mk (show widthS y = {y.h with wd := runesT y.h.p + y.n + runesT y.h.s} by unfold widthS; rw [if_neg (by rw [pe]; decide)])
        have r1 := runesT_range y.h.p HI.out.cp HI.out.tp
        have r2 := runesT_range y.h.s HI.out.cs HI.out.ts
        have nn := HI.out.n5 (by omega)
        have hw1 : IntKind.i64.wrap (runesT y.h.p + y.n) = runesT y.h.p + y.n := IntWalk.i64_in _ (by omega)
        have hw2 : IntKind.i64.wrap (runesT y.h.p + y.n + runesT y.h.s) = runesT y.h.p + y.n + runesT y.h.s := IntWalk.i64_in _ (by omega)
        clear r1 r2 nn
        go_wp2_with fail
        go_region_held3 (fun w' => w'.cell? ⟨g, 2, none⟩ = some (.slice L.A y.h.p.length L.c) ∧ w'.cell? ⟨g, 3, none⟩ = some (.slice L.B y.h.s.length L.d) ∧ w'.cell? ⟨g, 14, none⟩ = some (.int .i64 y.n))
          (first | exact ⟨HC.out.c2, HC.out.c3, HC.out.c14⟩ | exact ⟨(HC.out.set_wd _).c2, (HC.out.set_wd _).c3, (HC.out.set_wd _).c14⟩ | exact ⟨(HC.out.set_wd _).drew1.c2, (HC.out.set_wd _).drew1.c3, (HC.out.set_wd _).drew1.c14⟩)
          (first | (go_at_call 46; (with_reducible refine (truns_calls L.A L.c y.h.p _ (aP50 : CW w0 _ g m L s y.p y.h y.n).rp.C HC.out.pc HI.out.tp HI.out.cp).mono ?_); rintro e w1 ⟨rfl, hb⟩; have nc := Aside0.mk ((aP50 : CW w0 _ g m L s y.p y.h y.n).step hb); have z13 := nc.out.fz 13; have e13 := nc.out.c13; clear HC hb; have HC := nc; clear nc) | (go_at_call 46; (with_reducible refine (truns_calls L.B L.d y.h.s _ (aP50 : CW w0 _ g m L s y.p y.h y.n).rs.C HC.out.sc HI.out.ts HI.out.cs).mono ?_); rintro e w1 ⟨rfl, hb⟩; have nc := Aside0.mk ((aP50 : CW w0 _ g m L s y.p y.h y.n).step hb); have z13 := nc.out.fz 13; have e13 := nc.out.c13; clear HC hb; have HC := nc; clear nc))
        go_wp2
        go_ret
        rw [HN.out]
        have hc : CW w0 _ g m L s y.p {y.h with wd := runesT y.h.p + y.n + runesT y.h.s} y.n := (by first | exact HC.out.set_wd _ | exact (HC.out.set_wd _).drew1 | exact (HC.out.set_wd _).drewN _)
        exact ⟨rfl, HI.out, keepG_alloc (by rw [← HF.out]; exact hc.rz) (by rw [← HF.out]; exact hc.kept), m, L, by rw [HE.out]; exact hc⟩
end Go.Proofs.Ytacnjemndfmbhaa.Q
end
