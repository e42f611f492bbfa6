/- A window of an owned row of limbs: read and written like a row of its own. -/
import Derived.Test.YtfaknblpkegekaaQx0
namespace Go.Proofs.Ytfaknblpkegekaa.Q
open Go.RowKit Go.Proofs.YtfaknblpkegekaaW.PrintWords Go.Proofs.YtfaknblpkegekaaW.PrintLast Go.Proofs.YtfaknblpkegekaaW.PrintMore
set_option linter.unusedVariables false
/-- v shows xs in the row pre ++ xs ++ post, which is owned. -/
def Wn (pre post : List Int) (C : Nat) (w : World) (base : Nat) (ok : Nat → Prop) (v : Value) (xs : List Int) : Prop :=
  (∀ k, v.ownBlock = some k → ok k) ∧ ∃ g, v = .slice (some ⟨g, pre.length, none⟩) xs.length (C - pre.length) ∧
    Kd.R (Kd.int .u64) 46 w base ok (.slice (some ⟨g, 0, none⟩) (pre ++ xs ++ post).length C) (pre ++ xs ++ post)
section
variable {pre post : List Int} {C : Nat} {w w1 : World} {base : Nat} {ok ok' : Nat → Prop} {v : Value} {xs : List Int}
theorem add_win (g p n : Nat) : (⟨g, p, none⟩ : Addr).add n = ⟨g, p + n, none⟩ := by simp [Addr.add]
theorem Wn_mono (h : Wn pre post C w base ok v xs) (hok : ∀ k, ok k → ok' k) : Wn pre post C w base ok' v xs := by
  obtain ⟨h0, g, e, hR⟩ := h
  exact ⟨fun k hk => hok k (h0 k hk), g, e, Kd.R_mono hR hok⟩
theorem Wn_drew (h : Wn pre post C w base ok v xs) : Wn pre post C w.drew base ok v xs := by
  obtain ⟨h0, g, e, hR⟩ := h
  exact ⟨h0, g, e, Kd.R_drew hR⟩
theorem Wn_drewN (h : Wn pre post C w base ok v xs) (m : Nat) : Wn pre post C (w.drewN m) base ok v xs := by
  obtain ⟨h0, g, e, hR⟩ := h
  exact ⟨h0, g, e, Kd.R_drewN hR m⟩
theorem Wn_alloc (h : Wn pre post C w base ok v xs) (o : Obj) : Wn pre post C (w.alloc o) base ok v xs := by
  obtain ⟨h0, g, e, hR⟩ := h
  exact ⟨h0, g, e, Kd.R_alloc hR o⟩
theorem Wn_slice (h : Wn pre post C w base ok v xs) : ∃ A c, v = .slice A xs.length c := by
  obtain ⟨h0, g, e, hR⟩ := h
  exact ⟨_, _, e⟩
theorem Wn_reads' {A : Option Addr} {n c : Nat} (h : Wn pre post C w base ok (.slice A n c) xs) : n = xs.length ∧ n ≤ c ∧ (Kd.int .u64).C w A xs.length xs := by
  obtain ⟨h0, g, e, hR⟩ := h
  injection e with e1 e2 e3
  subst e1; subst e2; subst e3
  obtain ⟨_, hc, hr⟩ := Kd.R_reads' hR
  have hl : (pre ++ xs ++ post).length = pre.length + xs.length + post.length := by simp only [List.length_append]
  refine ⟨rfl, by omega, rfl, ?_, fun hp => ?_⟩
  · have := hr.2.1; omega
  · obtain ⟨ad, he, hcells⟩ := hr.2.2 (by omega)
    injection he with he
    subst he
    refine ⟨_, rfl, fun j p hj => ?_⟩
    have hjl : j < xs.length := (List.getElem?_eq_some_iff.1 hj).1
    obtain ⟨cs, hcl, hK, hcell⟩ := hcells (pre.length + j) p (by
      rw [List.getElem?_append_left (by rw [List.length_append]; omega), List.getElem?_append_right (by omega), Nat.add_sub_cancel_left]
      exact hj)
    refine ⟨cs, hcl, hK, fun i u hi => ?_⟩
    have := hcell i u hi
    have hsz : (Kd.int .u64).sz = 1 := rfl
    rw [hsz] at this ⊢
    rw [add_win] at this ⊢
    rw [← this]
    congr 2
    omega
theorem Wn_form (h : Wn pre post C w base ok v xs) (hp : 0 < xs.length) : ∃ g cap, v = .slice (some ⟨g, pre.length, none⟩) xs.length cap ∧ base ≤ g ∧ g < w.heap.size ∧ ∃ cells, w.heap[g]? = some (.cells cells 46 (0, 0)) := by
  obtain ⟨h0, g, e, hR⟩ := h
  obtain ⟨g', cap, e', hb, hl, cells, hc⟩ := Kd.R_form hR (by simp only [List.length_append]; omega)
  injection e' with e1 e2 e3
  injection e1 with e1
  injection e1 with e1
  subst e1
  exact ⟨g, _, e, hb, hl, cells, hc⟩
theorem Wn_celln (d : Int) {g n cap : Nat} (h : Wn pre post C w base ok (.slice (some ⟨g, pre.length, none⟩) n cap) xs) (i : Int) (h0 : 0 ≤ i) (hi : i < n) :
    w.cell? ⟨g, pre.length + i.toNat, none⟩ = some (.int .u64 (rd xs i)) ∧ w.frozen? ⟨g, pre.length + i.toNat, none⟩ = false := by
  obtain ⟨_, g', e, hR⟩ := h
  injection e with e1 e2 e3
  injection e1 with e1
  injection e1 with e1
  subst e1; subst e2
  have hh := Kd.R_celln (enc := Value.int .u64) (h1 := fun _ => rfl) (0 : Int) hR ((pre.length + i.toNat : Nat) : Int) (by omega) (by simp only [List.length_append]; omega)
  rw [Int.toNat_natCast] at hh
  refine ⟨hh.1.trans ?_, hh.2⟩
  congr 2
  show (pre ++ xs ++ post).getD (((pre.length + i.toNat : Nat) : Int)).toNat 0 = xs.getD i.toNat 0
  rw [Int.toNat_natCast, List.getD_eq_getElem?_getD, List.getD_eq_getElem?_getD, List.getElem?_append_left (by rw [List.length_append]; omega), List.getElem?_append_right (by omega), Nat.add_sub_cancel_left]
theorem win_set (i : Nat) (x : Int) (h : i < xs.length) : (pre ++ xs ++ post).set (pre.length + i) x = pre ++ xs.set i x ++ post := by
  rw [List.set_append_left _ _ (by rw [List.length_append]; omega), List.set_append_right _ _ (by omega), Nat.add_sub_cancel_left]
theorem win_far (i : Nat) (x : Int) (h : ¬ i < xs.length) : xs.set i x = xs := List.set_eq_of_length_le (by omega)
theorem Wn_putg {g n cap : Nat} (h : Wn pre post C w base ok (.slice (some ⟨g, pre.length, none⟩) n cap) xs) (i : Int) (hi : i.toNat < xs.length) (x : Int) :
    Wn pre post C (w.setCell ⟨g, pre.length + i.toNat, none⟩ (.int .u64 x)) base ok (.slice (some ⟨g, pre.length, none⟩) n cap) (xs.set i.toNat x) ∧ w.grownBy (w.setCell ⟨g, pre.length + i.toNat, none⟩ (.int .u64 x)) (some g) := by
  obtain ⟨ho, g', e, hR⟩ := h
  injection e with e1 e2 e3
  injection e1 with e1
  injection e1 with e1
  subst e1; subst e2; subst e3
  have hh := Kd.R_putg (enc := Value.int .u64) (h1 := fun _ => rfl) hR ((pre.length + i.toNat : Nat) : Int) x
  rw [Int.toNat_natCast, win_set _ _ hi] at hh
  refine ⟨⟨ho, g, by rw [List.length_set], ?_⟩, hh.2⟩
  have hl : (pre ++ xs ++ post).length = (pre ++ xs.set i.toNat x ++ post).length := by simp only [List.length_append, List.length_set]
  rw [← hl]
  exact hh.1
/-- The whole row, seen from the window. -/
theorem Wn_row {g n c : Nat} (h : Wn pre post C w base ok (.slice (some ⟨g, pre.length, none⟩) n c) xs) :
    Kd.R (Kd.int .u64) 46 w base (fun k => k = g) (.slice (some ⟨g, 0, none⟩) (pre ++ xs ++ post).length C) (pre ++ xs ++ post) := by
  obtain ⟨_, g', e, hR⟩ := h
  injection e with e1 e2 e3
  injection e1 with e1
  injection e1 with e1
  subst e1
  exact Kd.R_reok rfl hR (fun k hk => by injection hk with hk; exact hk.symm)
theorem Wn_of {g N : Nat} (h : Kd.R (Kd.int .u64) 46 w base (fun k => k = g) (.slice (some ⟨g, 0, none⟩) N C) (pre ++ xs ++ post)) :
    Wn pre post C w base (fun k => k = g) (.slice (some ⟨g, pre.length, none⟩) xs.length (C - pre.length)) xs := by
  have hN := (Kd.R_reads' h).1
  subst hN
  exact ⟨fun k hk => by injection hk with hk; exact hk.symm, g, rfl, h⟩
/-- u[j:h]: a window. -/
theorem win_cut (g N c j h : Nat) (h1 : j < h) (h2 : h ≤ N) (hc : N ≤ c) :
    ∀ W : World, (Instr.slice 22 (.slice (some ⟨g, 0, none⟩) N c) (some (.int .i64 (j : Int))) (some (.int .i64 (h : Int))) none).run Try.prog W = .ok (.slice (some ⟨g, j, none⟩) (h - j) (c - j)) W := by
  intro W
  obtain ⟨i0, hi, hz0, hz1, hz2⟩ := info_parts info46
  have hh := cut_mid (P := Try.prog) 22 46 .i64 .i64 Try.underlying22 hi 1 hz1 (some ⟨g, 0, none⟩) N c (j : Int) (h : Int) (by omega) (by omega) (by omega) hc W
  rw [Int.toNat_natCast, Int.toNat_natCast, if_neg (by omega)] at hh
  rw [hh]
  simp [add_plain]
end
end Go.Proofs.Ytfaknblpkegekaa.Q
