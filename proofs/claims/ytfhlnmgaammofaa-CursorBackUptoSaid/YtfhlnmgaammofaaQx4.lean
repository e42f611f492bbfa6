-- printed by a program of this session (wip/tools/print2.sh) after the kit's print
import Derived.Test.YtfhlnmgaammofaaQx0
import Derived.Test.YtfhlnmgaammofaaQx3
namespace Go.Proofs.Ytfhlnmgaammofaa.Q
open Go.RowKit Go.Proofs.YtfhlnmgaammofaaW.PrintWords Go.Proofs.YtfhlnmgaammofaaW.PrintLast Go.Proofs.YtfhlnmgaammofaaW.PrintMore
attribute [local go_sem] max2_int min2_int max_two min_two max_three min_three max_four min_four   -- for this text's walks alone
set_option linter.unusedVariables false
set_option linter.unusedSimpArgs false

/-! ### cursor_Put32: function 20 -/
def cursor_Put32.f (k : Nat) (a0 : Int) : Option (ByteArray) := (cursor_put.f k a0 4).bind fun t121 => (some t121)
theorem cursor_Put32.mono : ∀ a0 k, LeO (cursor_Put32.f k a0) (cursor_Put32.f (k + 1) a0) := by
  intro a0 k
  unfold cursor_Put32.f
  repeat' first
      | (with_reducible exact cursor_put.mono _ _ _)
      | (with_reducible exact LeO.refl _)
      | (with_reducible exact LeO.none _)
      | (with_reducible refine LeO.ite ?_ ?_)
      | (with_reducible refine LeO.bind ?_ (fun _ => ?_))
      | exact cursor_put.mono _ _ _
      | exact LeO.none _
      | refine LeO.ite ?_ ?_
      | refine LeO.bind ?_ (fun _ => ?_)
set_option maxHeartbeats 8000000 in
set_option maxRecDepth 100000 in
theorem cursor_Put32.calls (k : Nat) (a0 : Int) (r : ByteArray) (w : World) (h : cursor_Put32.f k a0 = some r) :
    Calls Try.prog 20 #[.int .i64 a0] w fun e w' => e = .returned (.string r) ∧ Below w.heap.size w w' := by
  have HB := Aside0.mk (Below.refl w.heap.size w)
  have H : ((cursor_put.f k a0 4).bind fun t121 => (some t121)) = some r := h
  clear h
  replace H := Option.bind_eq_some_iff.mp H
  obtain ⟨t121, A20, H⟩ := H
  replace H : (some t121) = some r := H
  have A2 := Aside0.mk A20
  clear A20
  obtain rfl := Option.some.inj H
  go_enter Try.func20, Try.ntmps20
  go_wp2_with (first | ((with_reducible refine gate_callee (f := 37) rfl ?_); refine goesL_ (some 4) rfl rfl Try.func37 (by kernel_rfl) rfl #[.int .i64 a0, .int .i64 4] rfl (by (try simp only [List.map_toArray, List.map_cons, List.map_nil]); first | done | rfl | (simp only [List.length_drop, List.length_take]; rfl)) ?_; (with_reducible refine (cursor_put.calls k a0 4 t121 _ A2.out).mono ?_); rintro e w3 ⟨rfl, hb⟩; refine ⟨_, rfl, ?_⟩; have n0_ := Aside0.mk (below_step (by repeat (first | (with_reducible first | exact HB.out | apply below_alloc | apply pw_below_drewN | apply below_drew1) | exact HB.out)) hb); clear HB; have HB := n0_; clear n0_; (try clear hb); (try clear hb2); (try clear hk); (try clear hi)))
  go_ret
  exact ⟨by first | rfl | (simp [errW_none, errW_some] <;> rfl) | (simp [*, errW_none, errW_some] <;> rfl), by repeat (first | (with_reducible first | exact HB.out | apply below_alloc | apply pw_below_drewN | apply below_drew1) | exact HB.out)⟩

/-- A state of type 59 at block g of W; what its slices lead to came in by w0. -/
def IsS59 (w0 W : World) (g : Nat) (f0 : ByteArray) (f1 : Int) (f2 : Int) : Prop := W.heap[g]? = some (.cells #[.string f0, .int .i64 f1, .int .i64 f2] 59 (0, 0)) ∧ w0.heap.size ≤ g
theorem IsS59.grown {w0 W : World} {g : Nat} {f0 : ByteArray} {f1 : Int} {f2 : Int} {W1 : World} {row : Option Nat} (h : IsS59 w0 W g f0 f1 f2) (hw : W.grownBy W1 row) (hne : some g ≠ row) : IsS59 w0 W1 g f0 f1 f2 := by
  obtain ⟨hb, hg⟩ := h
  exact ⟨blk_grown hb hw hne, hg⟩
theorem IsS59.own_neN {w0 W : World} {g : Nat} {f0 : ByteArray} {f1 : Int} {f2 : Int} {α : Type} {d : Kd α} {e : Nat} {base : Nat} {ok : Nat → Prop} {v : Value} {xs : List α} (h : IsS59 w0 W g f0 f1 f2) (ho : Kd.N d e W base ok v xs) (ht : e ≠ 59) : some g ≠ v.ownBlock := by
  obtain ⟨hb, hg⟩ := h
  exact Kd.N_ne ho hb ht
theorem IsS59.fresh {w0 W : World} {g : Nat} {f0 : ByteArray} {f1 : Int} {f2 : Int} (h : IsS59 w0 W g f0 f1 f2) : ∀ k, W.heap.size ≤ k → k ≠ g := by
  obtain ⟨hb, hg⟩ := h
  exact Kd.freshB hb
theorem IsS59.kept {w0 W : World} {g : Nat} {f0 : ByteArray} {f1 : Int} {f2 : Int} {W1 : World} {S : Nat → Prop} (h : IsS59 w0 W g f0 f1 f2) (hk : Kept W W1 S) (hne : ¬ S g) : IsS59 w0 W1 g f0 f1 f2 := by
  obtain ⟨hb, hg⟩ := h
  exact ⟨blk_kept hb hk hne, hg⟩
theorem IsS59.below {w0 W : World} {g : Nat} {f0 : ByteArray} {f1 : Int} {f2 : Int} {W1 : World} (h : IsS59 w0 W g f0 f1 f2) (hw : Below W.heap.size W W1) : IsS59 w0 W1 g f0 f1 f2 := h.grown (grown_of_below hw none) (by simp)
theorem IsS59.alloc {w0 W : World} {g : Nat} {f0 : ByteArray} {f1 : Int} {f2 : Int} (h : IsS59 w0 W g f0 f1 f2) (o : Obj) : IsS59 w0 (W.alloc o) g f0 f1 f2 := h.below (below_alloc (Below.refl _ _) o)
theorem IsS59.drewN {w0 W : World} {g : Nat} {f0 : ByteArray} {f1 : Int} {f2 : Int} (h : IsS59 w0 W g f0 f1 f2) (m : Nat) : IsS59 w0 (W.drewN m) g f0 f1 f2 := h
theorem IsS59.drew {w0 W : World} {g : Nat} {f0 : ByteArray} {f1 : Int} {f2 : Int} (h : IsS59 w0 W g f0 f1 f2) : IsS59 w0 W.drew g f0 f1 f2 := h
theorem IsS59.at_ {w0 W : World} {g : Nat} {f0 : ByteArray} {f1 : Int} {f2 : Int} {w' : World} {m : Nat} (hq : W.drewN m = w') (h : IsS59 w0 W g f0 f1 f2) : IsS59 w0 w' g f0 f1 f2 := by subst hq; exact IsS59.drewN h m
theorem IsS59.apart {w0 W : World} {g : Nat} {f0 : ByteArray} {f1 : Int} {f2 : Int} {α : Type} {d : Kd α} {e : Nat} {base : Nat} {ok : Nat → Prop} {v : Value} {xs : List α} (h : IsS59 w0 W g f0 f1 f2) (ho : d.R e W base ok v xs) (ht : ∀ q, q ∈ e :: d.E → q ≠ 59) : d.R e W base (fun k => ok k ∧ k ≠ g) v xs := by
  obtain ⟨hb, hg⟩ := h
  exact Kd.R_types ho hb ht
theorem IsS59.own_ne {w0 W : World} {g : Nat} {f0 : ByteArray} {f1 : Int} {f2 : Int} {α : Type} {d : Kd α} {e : Nat} {base : Nat} {ok : Nat → Prop} {v : Value} {xs : List α} (h : IsS59 w0 W g f0 f1 f2) (ho : d.R e W base ok v xs) (ht : e ≠ 59) : some g ≠ v.ownBlock := by
  obtain ⟨hb, hg⟩ := h
  exact Kd.R_ne ho hb ht
theorem IsS59.apartQ {w0 W : World} {g : Nat} {f0 : ByteArray} {f1 : Int} {f2 : Int} {α : Type} {d : Kd α} {e : Nat} {base : Nat} {ok : Nat → Prop} {v : Value} {xs : List α} (h : IsS59 w0 W g f0 f1 f2) (ho : d.Q e W base ok v xs) (ht : ∀ q, q ∈ e :: d.E → q ≠ 59) : d.Q e W base (fun k => ok k ∧ k ≠ g) v xs := by
  obtain ⟨hb, hg⟩ := h
  exact Kd.Q_types ho hb ht
theorem IsS59.own_neQ {w0 W : World} {g : Nat} {f0 : ByteArray} {f1 : Int} {f2 : Int} {α : Type} {d : Kd α} {e : Nat} {base : Nat} {ok : Nat → Prop} {v : Value} {xs : List α} (h : IsS59 w0 W g f0 f1 f2) (ho : d.Q e W base ok v xs) (ht : e ≠ 59) : some g ≠ v.ownBlock := by
  obtain ⟨hb, hg⟩ := h
  exact Kd.Q_ne ho hb ht
theorem IsS59.apartS {w0 W : World} {g : Nat} {f0 : ByteArray} {f1 : Int} {f2 : Int} {α : Type} {d : Kd α} {e : Nat} {base : Nat} {ok : Nat → Prop} {v : Value} {xs : List α} (h : IsS59 w0 W g f0 f1 f2) (ho : d.S e W base ok v xs) (ht : ∀ q, q ∈ e :: d.E → q ≠ 59) : d.S e W base (fun k => ok k ∧ k ≠ g) v xs := by
  obtain ⟨hb, hg⟩ := h
  exact Kd.S_types ho hb ht
theorem IsS59.own_neS {w0 W : World} {g : Nat} {f0 : ByteArray} {f1 : Int} {f2 : Int} {α : Type} {d : Kd α} {e : Nat} {base : Nat} {ok : Nat → Prop} {v : Value} {xs : List α} (h : IsS59 w0 W g f0 f1 f2) (ho : d.S e W base ok v xs) (ht : e ≠ 59) : some g ≠ v.ownBlock := by
  obtain ⟨hb, hg⟩ := h
  exact Kd.S_ne ho hb ht
theorem IsS59.lt {w0 W : World} {g : Nat} {f0 : ByteArray} {f1 : Int} {f2 : Int} (h : IsS59 w0 W g f0 f1 f2) : g < W.heap.size := by
  obtain ⟨hb, hg⟩ := h
  exact blk_lt hb
theorem IsS59.ge {w0 W : World} {g : Nat} {f0 : ByteArray} {f1 : Int} {f2 : Int} (h : IsS59 w0 W g f0 f1 f2) : w0.heap.size ≤ g := by
  obtain ⟨hb, hg⟩ := h
  exact hg
theorem IsS59.ne_blk {w0 W : World} {g : Nat} {f0 : ByteArray} {f1 : Int} {f2 : Int} {a : Nat} {cs : Array Value} {t : TypeId} {fr : Nat × Nat} (h : IsS59 w0 W g f0 f1 f2) (hb2 : W.heap[a]? = some (.cells cs t fr)) (ht : t ≠ 59) : g ≠ a := by
  obtain ⟨hb, hg⟩ := h
  rintro rfl
  rw [hb] at hb2
  injection hb2 with hb2
  injection hb2 with _ ht2
  exact ht ht2.symm
theorem IsS59.far {w0 W : World} {g : Nat} {f0 : ByteArray} {f1 : Int} {f2 : Int} {p : Addr} (h : IsS59 w0 W g f0 f1 f2) (hne : g ≠ p.block) (u : Value) : IsS59 w0 (W.setCell p u) g f0 f1 f2 := by
  obtain ⟨hb, hg⟩ := h
  exact ⟨blk_far hb hne u, hg⟩
theorem cellS59_0 {W : World} {g : Nat} {f0 : ByteArray} {f1 : Int} {f2 : Int} (h : W.heap[g]? = some (.cells #[.string f0, .int .i64 f1, .int .i64 f2] 59 (0, 0))) : W.cell? ⟨g, 0, none⟩ = some (.string f0) := (blk_cell h 0).trans rfl
theorem IsS59.set_0 {w0 W : World} {g : Nat} {f0 : ByteArray} {f1 : Int} {f2 : Int} (h : IsS59 w0 W g f0 f1 f2) (x : ByteArray) : IsS59 w0 (W.setCell ⟨g, 0, none⟩ (.string x)) g x f1 f2 := by
  obtain ⟨hb, hg⟩ := h
  exact ⟨by simpa using blk_set hb 0 (.string x), hg⟩
theorem cellS59_1 {W : World} {g : Nat} {f0 : ByteArray} {f1 : Int} {f2 : Int} (h : W.heap[g]? = some (.cells #[.string f0, .int .i64 f1, .int .i64 f2] 59 (0, 0))) : W.cell? ⟨g, 1, none⟩ = some (.int .i64 f1) := (blk_cell h 1).trans rfl
theorem IsS59.set_1 {w0 W : World} {g : Nat} {f0 : ByteArray} {f1 : Int} {f2 : Int} (h : IsS59 w0 W g f0 f1 f2) (x : Int) : IsS59 w0 (W.setCell ⟨g, 1, none⟩ (.int .i64 x)) g f0 x f2 := by
  obtain ⟨hb, hg⟩ := h
  exact ⟨by simpa using blk_set hb 1 (.int .i64 x), hg⟩
theorem cellS59_2 {W : World} {g : Nat} {f0 : ByteArray} {f1 : Int} {f2 : Int} (h : W.heap[g]? = some (.cells #[.string f0, .int .i64 f1, .int .i64 f2] 59 (0, 0))) : W.cell? ⟨g, 2, none⟩ = some (.int .i64 f2) := (blk_cell h 2).trans rfl
theorem IsS59.set_2 {w0 W : World} {g : Nat} {f0 : ByteArray} {f1 : Int} {f2 : Int} (h : IsS59 w0 W g f0 f1 f2) (x : Int) : IsS59 w0 (W.setCell ⟨g, 2, none⟩ (.int .i64 x)) g f0 f1 x := by
  obtain ⟨hb, hg⟩ := h
  exact ⟨by simpa using blk_set hb 2 (.int .i64 x), hg⟩
theorem IsS59.new (w0 W : World) (f0 : ByteArray) (f1 : Int) (f2 : Int) (hB : Below w0.heap.size w0 W) : IsS59 w0 (W.alloc (.cells #[.string f0, .int .i64 f1, .int .i64 f2] 59)) W.heap.size f0 f1 f2 := ⟨by simpa using heap_alloc_new W _, hB.size⟩

/-! ### cursor_New: function 21 -/
def cursor_New.f (a0 : ByteArray) : Option (ByteArray × Int × Int) := some (a0, 0, 0)
set_option maxHeartbeats 8000000 in
set_option maxRecDepth 100000 in
theorem cursor_New.calls (a0 : ByteArray) (r1 : ByteArray) (r2 : Int) (r3 : Int) (w0 w : World) (hB : Below w0.heap.size w0 w) (h : cursor_New.f a0 = some (r1, r2, r3)) :
    Calls Try.prog 21 #[.string a0] w fun e w' => ∃ g_ : Nat, e = .returned (.pointer (some ⟨g_, 0, none⟩)) ∧ IsS59 w0 w' g_ r1 r2 r3 ∧ Below w0.heap.size w0 w' ∧ Below w.heap.size w w' := by
  have hu59 := Try.underlying59
  have HBW := Aside0.mk (Below.refl w.heap.size w)
  have HW0 := Aside0.mk hB.size
  have HB := Aside0.mk hB
  clear hB
  have H : (some (a0, 0, 0)) = some (r1, r2, r3) := h
  clear h
  simp only [Option.some.injEq, Prod.mk.injEq] at H
  obtain ⟨rfl, rfl, rfl⟩ := H
  go_enter Try.func21, Try.ntmps21
  go_wp2_with (first | ((with_reducible refine gate_dst (N := 5) rfl ?_); refine box_event ?hg (N := 5) ?hd (cs := #[.string a0, .int .i64 0, .int .i64 0]) (t := 59) ?hr ?_; (case hd => rfl); (case hg => rfl); (case hr => first | (go_simp; done) | (go_simp; rfl)); intro gb122 hg w2 hbox hb; have n0_ := Aside0.mk (below_step HBW.out hb); have n1_ := Aside0.mk (below_step (by repeat (first | (with_reducible first | exact HB.out | apply below_alloc | apply pw_below_drewN | apply below_drew1) | exact HB.out)) hb); have n2_ := Aside0.mk (hbox); have n3_ := Aside0.mk ((by rw [hg]; exact (below_size (by repeat (first | (with_reducible first | exact HBW.out | apply below_alloc | apply pw_below_drewN | apply below_drew1) | exact HBW.out))) : w.heap.size ≤ gb122)); have n4_ := Aside0.mk ((Nat.le_trans HW0.out (by rw [hg]; exact (below_size (by repeat (first | (with_reducible first | exact HBW.out | apply below_alloc | apply pw_below_drewN | apply below_drew1) | exact HBW.out))) : w.heap.size ≤ gb122) : w0.heap.size ≤ gb122)); clear HBW; clear HB; have HBW := n0_; have HB := n1_; have BK122 := n2_; have GW122 := n3_; have GE122 := n4_; clear n0_ n1_ n2_ n3_ n4_; clear hb hbox hg))
  go_ret
  exact ⟨_, rfl, (show IsS59 w0 _ gb122 a0 0 0 from ⟨by (with_reducible repeat (first | refine blk_drewN ?_ _ | refine blk_drew ?_ | refine blk_alloc ?_ _)); exact BK122.out, GE122.out⟩), by repeat (first | (with_reducible first | exact HB.out | apply below_alloc | apply pw_below_drewN | apply below_drew1 | refine below_set ?_ GE122.out) | exact HB.out), by repeat (first | (with_reducible first | exact HBW.out | apply below_alloc | apply pw_below_drewN | apply below_drew1 | refine below_set ?_ GW122.out) | exact HBW.out)⟩

/-! ### cursor_Cursor_At: function 22 -/
def cursor_Cursor_At.f (s0_0 : ByteArray) (s0_1 : Int) (s0_2 : Int) : Option (Int × ByteArray × Int × Int) := some (s0_1, s0_0, s0_1, s0_2)
set_option maxHeartbeats 8000000 in
set_option maxRecDepth 100000 in
theorem cursor_Cursor_At.calls (g : Nat) (s0_0 : ByteArray) (s0_1 : Int) (s0_2 : Int) (r1 : Int) (r2 : ByteArray) (r3 : Int) (r4 : Int) (w0 w : World) (hI : IsS59 w0 w g s0_0 s0_1 s0_2) (hB : Below w0.heap.size w0 w) (h : cursor_Cursor_At.f s0_0 s0_1 s0_2 = some (r1, r2, r3, r4)) :
    Calls Try.prog 22 #[.pointer (some ⟨g, 0, none⟩)] w fun e w' => e = .returned (.int .i64 r1) ∧ IsS59 w0 w' g r2 r3 r4 ∧ Below w0.heap.size w0 w' ∧ KeepBut w w' g none := by
  have HI0 := Aside0.mk hI
  have HK := Aside0.mk (KeepBut.refl w g none)
  have HL := Aside0.mk hB.size
  clear hI
  have HW0 := Aside0.mk hB.size
  have HB := Aside0.mk hB
  clear hB
  have H : (some (s0_1, s0_0, s0_1, s0_2)) = some (r1, r2, r3, r4) := h
  clear h
  simp only [Option.some.injEq, Prod.mk.injEq] at H
  obtain ⟨rfl, rfl, rfl, rfl⟩ := H
  obtain ⟨HGz2, hgz2⟩ := HI0.out
  have hcz2_0 := cellS59_0 HGz2
  have hcz2_1 := cellS59_1 HGz2
  have hcz2_2 := cellS59_2 HGz2
  have hfz2_0 := blk_frozen HGz2 0
  have hfz2_1 := blk_frozen HGz2 1
  have hfz2_2 := blk_frozen HGz2 2
  clear HGz2 hgz2
  go_enter Try.func22, Try.ntmps22
  go_wp2
  go_ret
  exact ⟨by first | rfl | (simp [errW_none, errW_some] <;> rfl) | (simp [*, errW_none, errW_some] <;> rfl), by repeat (first | (with_reducible first | exact HI0.out | apply IsS59.alloc | apply IsS59.drewN | apply IsS59.drew | apply IsS59.set_0 | apply IsS59.set_1 | apply IsS59.set_2) | exact HI0.out), by repeat (first | (with_reducible first | exact HB.out | apply below_alloc | apply pw_below_drewN | apply below_drew1 | refine below_set ?_ (IsS59.ge HI0.out)) | exact HB.out), by repeat (first | (with_reducible first | exact HK.out | apply KeepBut.set_ | apply keep_drewN | apply keep_drew | apply keep_alloc) | exact HK.out)⟩

/-! ### cursor_Cursor_Fault: function 23 -/
def cursor_Cursor_Fault.f (s0_0 : ByteArray) (s0_1 : Int) (s0_2 : Int) : Option (Int × Int × ByteArray × Int × Int) := if s0_2 = 0 then (some (0, 0, s0_0, s0_1, s0_2)) else (some (s0_2, s0_1, s0_0, s0_1, s0_2))
set_option maxHeartbeats 8000000 in
set_option maxRecDepth 100000 in
theorem cursor_Cursor_Fault.calls (g : Nat) (s0_0 : ByteArray) (s0_1 : Int) (s0_2 : Int) (r1 : Int) (r2 : Int) (r3 : ByteArray) (r4 : Int) (r5 : Int) (w0 w : World) (hI : IsS59 w0 w g s0_0 s0_1 s0_2) (hB : Below w0.heap.size w0 w) (h : cursor_Cursor_Fault.f s0_0 s0_1 s0_2 = some (r1, r2, r3, r4, r5)) :
    Calls Try.prog 23 #[.pointer (some ⟨g, 0, none⟩)] w fun e w' => e = .returned (.tuple #[.int .i64 r1, .int .i64 r2]) ∧ IsS59 w0 w' g r3 r4 r5 ∧ Below w0.heap.size w0 w' ∧ KeepBut w w' g none := by
  have HI0 := Aside0.mk hI
  have HK := Aside0.mk (KeepBut.refl w g none)
  have HL := Aside0.mk hB.size
  clear hI
  have HW0 := Aside0.mk hB.size
  have HB := Aside0.mk hB
  clear hB
  have H : (if s0_2 = 0 then (some (0, 0, s0_0, s0_1, s0_2)) else (some (s0_2, s0_1, s0_0, s0_1, s0_2))) = some (r1, r2, r3, r4, r5) := h
  clear h
  by_cases c2 : s0_2 = 0
  · rw [if_pos c2] at H
    have c2b0 : (s0_2 == 0) = true := beq_iff_eq.mpr c2
    have c2b1 : (s0_2 != 0) = false := bne_eq_false_iff_eq.mpr c2
    clear c2
    simp only [Option.some.injEq, Prod.mk.injEq] at H
    obtain ⟨rfl, rfl, rfl, rfl, rfl⟩ := H
    obtain ⟨HGz3, hgz3⟩ := HI0.out
    have hcz3_0 := cellS59_0 HGz3
    have hcz3_1 := cellS59_1 HGz3
    have hcz3_2 := cellS59_2 HGz3
    have hfz3_0 := blk_frozen HGz3 0
    have hfz3_1 := blk_frozen HGz3 1
    have hfz3_2 := blk_frozen HGz3 2
    clear HGz3 hgz3
    go_enter Try.func23, Try.ntmps23
    go_wp2
    repeat (go_quiet (fail); try go_wp2)
    go_ret2
    exact ⟨by first | rfl | (simp [errW_none, errW_some] <;> rfl) | (simp [*, errW_none, errW_some] <;> rfl), by repeat (first | (with_reducible first | exact HI0.out | apply IsS59.alloc | apply IsS59.drewN | apply IsS59.drew | apply IsS59.set_0 | apply IsS59.set_1 | apply IsS59.set_2) | exact HI0.out), by repeat (first | (with_reducible first | exact HB.out | apply below_alloc | apply pw_below_drewN | apply below_drew1 | refine below_set ?_ (IsS59.ge HI0.out)) | exact HB.out), by repeat (first | (with_reducible first | exact HK.out | apply KeepBut.set_ | apply keep_drewN | apply keep_drew | apply keep_alloc) | exact HK.out)⟩
  · rw [if_neg c2] at H
    have c2b0 : (s0_2 == 0) = false := beq_eq_false_iff_ne.mpr c2
    have c2b1 : (s0_2 != 0) = true := bne_iff_ne.mpr c2
    simp only [Option.some.injEq, Prod.mk.injEq] at H
    obtain ⟨rfl, rfl, rfl, rfl, rfl⟩ := H
    obtain ⟨HGz4, hgz4⟩ := HI0.out
    have hcz4_0 := cellS59_0 HGz4
    have hcz4_1 := cellS59_1 HGz4
    have hcz4_2 := cellS59_2 HGz4
    have hfz4_0 := blk_frozen HGz4 0
    have hfz4_1 := blk_frozen HGz4 1
    have hfz4_2 := blk_frozen HGz4 2
    clear HGz4 hgz4
    go_enter Try.func23, Try.ntmps23
    go_wp2
    repeat (go_quiet (fail); try go_wp2)
    go_ret2
    exact ⟨by first | rfl | (simp [errW_none, errW_some] <;> rfl) | (simp [*, errW_none, errW_some] <;> rfl), by repeat (first | (with_reducible first | exact HI0.out | apply IsS59.alloc | apply IsS59.drewN | apply IsS59.drew | apply IsS59.set_0 | apply IsS59.set_1 | apply IsS59.set_2) | exact HI0.out), by repeat (first | (with_reducible first | exact HB.out | apply below_alloc | apply pw_below_drewN | apply below_drew1 | refine below_set ?_ (IsS59.ge HI0.out)) | exact HB.out), by repeat (first | (with_reducible first | exact HK.out | apply KeepBut.set_ | apply keep_drewN | apply keep_drew | apply keep_alloc) | exact HK.out)⟩

/-! ### cursor_Cursor_Get16: function 25 (given) -/
theorem gb_refl (w : World) (r : Option Nat) : w.grownBy w r := ⟨rfl, rfl, rfl, Nat.le_refl _, fun _ _ _ => rfl⟩
theorem gb_drewN {w w1 : World} {r : Option Nat} (h : w.grownBy w1 r) (n : Nat) : w.grownBy (w1.drewN n) r := ⟨h.os, h.tape, h.output, h.size, h.block⟩
theorem gb_drew {w w1 : World} {r : Option Nat} (h : w.grownBy w1 r) : w.grownBy w1.drew r := ⟨h.os, h.tape, h.output, h.size, h.block⟩
theorem gb_trans {w w1 w2 : World} {r : Option Nat} (h : w.grownBy w1 r) (k : w1.grownBy w2 r) : w.grownBy w2 r :=
  ⟨k.os.trans h.os, k.tape.trans h.tape, k.output.trans h.output, Nat.le_trans h.size k.size, fun i hi hr => (k.block i (Nat.lt_of_lt_of_le hi h.size) hr).trans (h.block i hi hr)⟩
theorem gb_set {w w1 : World} {g : Nat} (h : w.grownBy w1 (some g)) (j : Nat) (u : Value) : w.grownBy (w1.setCell ⟨g, j, none⟩ u) (some g) :=
  gb_trans h ⟨rfl, rfl, rfl, by simp [World.setCell], fun k _ hk => Below.heap_setCell _ _ _ _ (fun e => hk (by rw [e]))⟩
theorem gb_far {w w1 : World} {g : Nat} (h : w.grownBy w1 (some g)) {a : Addr} (ha : w.heap.size ≤ a.block) (u : Value) : w.grownBy (w1.setCell a u) (some g) :=
  ⟨h.os, h.tape, h.output, by simpa [World.setCell] using h.size, fun k hk hr => (Below.heap_setCell _ _ _ _ (by omega)).trans (h.block k hk hr)⟩
theorem gb_alloc {w w1 : World} {r : Option Nat} (h : w.grownBy w1 r) (o : Obj) : w.grownBy (w1.alloc o) r := gb_trans h (World.grownBy_alloc w1 o r)
theorem gb_bytes (w : World) (e : TypeId) (s : ByteArray) (r : Option Nat) : w.grownBy (Lib.bytesWorld w e s) r :=
  ⟨rfl, rfl, rfl, by rw [Lib.bytesWorld_size]; omega, fun k hk _ => Lib.bytesWorld_at_old w e s k hk⟩

set_option maxHeartbeats 1000000 in
theorem take_ok (g : Nat) (s : ByteArray) (p e n : Int) (w0 w : World) (hI : IsS59 w0 w g s p e) (hp : 0 ≤ p) (hn : 0 ≤ n) (hs : p + n ≤ s.size) (hm : (s.size : Int) ≤ 9223372036854775807) :
    Calls Try.prog 45 #[.pointer (some ⟨g, 0, none⟩), .int .i64 n] w fun en w' => en = .returned (.string (s.extract p.toNat (p + n).toNat)) ∧ w.grownBy w' (some g) ∧ IsS59 w0 w' g s (p + n) e := by
  have HI := Aside0.mk hI
  obtain ⟨HG, hg⟩ := hI
  have h0 := cellS59_0 HG
  have h1 := cellS59_1 HG
  have hf1 := blk_frozen HG 1
  clear HG hg
  have hw1 : IntKind.i64.wrap (p + n) = p + n := IntWalk.i64_in _ (by omega)
  have hb1 : p ≤ p + n := by omega
  have ht : decide ((s.size : Int) - p < n) = false := decide_eq_false (by omega)
  go_enter Try.func45, Try.ntmps45
  go_wp2
  repeat (go_quiet (fail); try go_wp2)
  go_ret
  exact ⟨rfl, gb_set (gb_drewN (gb_refl w _) _) _ _, IsS59.set_1 (IsS59.drewN HI.out _) _⟩

/-- What a thing that can't be read gives up with. -/
abbrev gives (c : Int) : Ending := .panicked [{ v := .iface 28 (.int .i64 c), recovered := false }]

set_option maxHeartbeats 1000000 in
theorem take_no (g : Nat) (s : ByteArray) (p e n : Int) (w0 w : World) (hI : IsS59 w0 w g s p e) (hp : 0 ≤ p) (hn : 0 ≤ n) (hs : (s.size : Int) < p + n) (hps : p ≤ s.size) (hm : (s.size : Int) ≤ 9223372036854775807) :
    Calls Try.prog 45 #[.pointer (some ⟨g, 0, none⟩), .int .i64 n] w fun en w' => en = gives 110 ∧ w.grownBy w' (some g) ∧ IsS59 w0 w' g s p e := by
  have HI := Aside0.mk hI
  obtain ⟨HG, hg⟩ := hI
  have h0 := cellS59_0 HG
  have h1 := cellS59_1 HG
  clear HG hg
  have ht : decide ((s.size : Int) - p < n) = true := decide_eq_true (by omega)
  go_enter Try.func45, Try.ntmps45
  go_wp2
  repeat (go_quiet (fail); try go_wp2)
  exact ⟨rfl, rfl, gb_drewN (gb_refl w _) _, IsS59.drewN HI.out _⟩

theorem sub_byte (s : ByteArray) (p : Int) (n k : Nat) (hp : 0 ≤ p) (hk : k < n) (hs : p + n ≤ s.size) :
    (((s.extract p.toNat (p + n).toNat).data.toList.getD k 0).toNat : Int) = bt s (p + k) := by
  have h : (p + (k : Int)).toNat < s.size := by omega
  simp only [bt, h, dite_true]
  congr 2
  rw [ByteArray.data_extract, Array.toList_extract, List.getD_eq_getElem?_getD, List.extract_eq_take_drop, List.getElem?_take, if_pos (by omega), List.getElem?_drop]
  rw [show p.toNat + k = (p + (k : Int)).toNat by omega, List.getElem?_eq_getElem (by simpa using h)]
  rfl

theorem beNum_range (s : ByteArray) (p : Int) : ∀ n, 0 ≤ beNum s p n ∧ beNum s p n < 256 ^ n
  | 0 => by simp [beNum]
  | n + 1 => by
    have ⟨h1, h2⟩ := beNum_range s p n
    have ⟨h3, h4⟩ := bt_range s (p + n)
    simp only [beNum, Int.pow_succ]
    omega

theorem i64_or8 (x y : Int) (hx : 0 ≤ x) (hx1 : x * 256 < 9223372036854775808) (h0 : 0 ≤ y) (h1 : y ≤ 255) : bits .or .i64 (wrap64 (x * 256)) y = x * 256 + y := by
  have hw : wrap64 (x * 256) = x * 256 := by unfold wrap64; omega
  rw [hw]
  exact bits_join .i64 63 (by decide) (fun n h0 h1 => by rw [IntKind.wrap_i64]; omega) 8 (x * 256) y (by omega) (by omega) (by omega) h0 (by omega) (by omega)

set_option maxHeartbeats 1000000 in
theorem number_ok (g : Nat) (s : ByteArray) (p e : Int) (n : Nat) (hn4 : n ≤ 4) (w0 w : World) (hI : IsS59 w0 w g s p e) (hp : 0 ≤ p) (hs : p + n ≤ s.size) (hm : (s.size : Int) ≤ 9223372036854775807) :
    Calls Try.prog 40 #[.pointer (some ⟨g, 0, none⟩), .int .i64 n] w fun en w' => en = .returned (.int .i64 (beNum s p n)) ∧ w.grownBy w' (some g) ∧ IsS59 w0 w' g s (p + n) e := by
  have hcv := fun (w : World) (s : ByteArray) => Lib.run_convert_string_bytes (P := Try.prog) w 9 48 5 s Try.underlying9 Try.underlying48 Try.underlying5
  go_enter Try.func40, Try.ntmps40
  go_wp2_with fail
  refine (take_ok g s p e n w0 _ hI hp (by omega) hs hm).mono ?_
  rintro en w1 ⟨rfl, hg1, hI1⟩
  have HG1 := Aside0.mk hg1
  have HI1 := Aside0.mk hI1
  clear hg1 hI1 hI
  have hsz : (s.extract p.toNat (p + (n : Int)).toNat).size = n := by rw [ByteArray.size_extract]; omega
  have hsub := Aside0.mk (fun k hk => sub_byte s p n k hp hk hs)
  obtain ⟨sub, hsub2⟩ : ∃ sub, sub = s.extract p.toNat (p + (n : Int)).toNat := ⟨_, rfl⟩
  rw [← hsub2] at hsz hsub ⊢
  clear hsub2
  have HZ := Aside0.mk hsz
  clear hsz
  have hcell : ∀ k, k < sub.size → (Lib.bytesWorld w1 5 sub).cell? ⟨w1.heap.size, k, none⟩ = some (.int .u8 (sub.data.toList.getD k 0).toNat) := fun k hk => Lib.bytesWorld_cell w1 5 sub k hk
  have HC := Aside0.mk hcell
  clear hcell
  go_wp2
  go_loop [5, 7, 13] (fun a b i => ∃ k : Nat, k ≤ n ∧ i = .int .i64 k ∧ a = .int .i64 (beNum s p k)) (fun _ _ i => n - (intOf i).toNat)
  case atStart => exact ⟨0, Nat.zero_le _, rfl, rfl⟩
  case round =>
    obtain ⟨k, hk, rfl, rfl⟩ := hrel
    by_cases hlt : k < n
    · have hc := HC.out k (by rw [HZ.out]; exact hlt)
      have hb := bt_range s (p + k)
      rw [hsub.out k hlt] at hc
      have ⟨hr1, hr2⟩ := beNum_range s p k
      have ht : decide ((k : Int) < sub.size) = true := decide_eq_true (by rw [HZ.out]; omega)
      have ht2 : k < sub.size := by rw [HZ.out]; omega
      have hp4 : (256 : Int) ^ k ≤ 256 ^ 3 := by
        have : k = 0 ∨ k = 1 ∨ k = 2 ∨ k = 3 := by omega
        rcases this with rfl | rfl | rfl | rfl <;> decide
      have ho := Aside0.mk (i64_or8 (beNum s p k) (bt s (p + k)) hr1 (by omega) hb.1 hb.2)
      clear hp4 hr2 hr1
      obtain ⟨hb1, hb2⟩ := hb
      go_wp2
      refine ⟨⟨k + 1, by omega, by go_num, ?_⟩, by simp [intOf]; omega⟩
      rw [ho.out]; rfl
    · have ht : decide (k < sub.size) = false := decide_eq_false (by rw [HZ.out]; omega)
      have ht2 : ¬ k < sub.size := by rw [HZ.out]; omega
      have hkn : k = n := by omega
      have HK := Aside0.mk hkn
      clear hkn
      go_wp2
      go_ret
      exact ⟨by first | rfl | (rw [HK.out]; rfl), gb_trans HG1.out (gb_bytes _ _ _ _), IsS59.grown HI1.out (gb_bytes w1 5 sub none) (by simp)⟩

set_option maxHeartbeats 1000000 in
theorem number_no (g : Nat) (s : ByteArray) (p e : Int) (n : Nat) (w0 w : World) (hI : IsS59 w0 w g s p e) (hp : 0 ≤ p) (hs : (s.size : Int) < p + n) (hps : p ≤ s.size) (hm : (s.size : Int) ≤ 9223372036854775807) :
    Calls Try.prog 40 #[.pointer (some ⟨g, 0, none⟩), .int .i64 n] w fun en w' => en = gives 110 ∧ w.grownBy w' (some g) ∧ IsS59 w0 w' g s p e := by
  go_enter Try.func40, Try.ntmps40
  go_wp2_with fail
  refine (take_no g s p e n w0 _ hI hp (by omega) hs hps hm).mono ?_
  rintro en w1 ⟨rfl, hg1, hI1⟩
  exact ⟨rfl, rfl, hg1, hI1⟩

theorem caught46 (a b : Addr) (g : Nat) (p0 c : Int) (older : List PanicEntry) (w : World) (ha : w.cell? a = some (.int .i64 p0)) (hb : w.cell? b = some (.pointer (some ⟨g, 0, none⟩)))
    (x1 x2 : Value) (h1 : w.cell? ⟨g, 1, none⟩ = some x1) (h2 : w.cell? ⟨g, 2, none⟩ = some x2) (f1 : w.frozen? ⟨g, 1, none⟩ = false) (f2 : w.frozen? ⟨g, 2, none⟩ = false) :
    CallsD Try.prog 46 #[.pointer (some a), .pointer (some b)] (.panicking ({ v := .iface 28 (.int .i64 c), recovered := false } :: older)) w fun e u' w' =>
      e = .returned (.tuple #[]) ∧ u' = .panicking ({ v := .iface 28 (.int .i64 c), recovered := true } :: older) ∧ w' = (w.setCell ⟨g, 1, none⟩ (.int .i64 p0)).setCell ⟨g, 2, none⟩ (.int .i64 c) := by
  have hta : ∀ (v : Value) (W : World), (Instr.typeAssert (.iface 28 v) 20 28 true).run Try.prog W = .ok (.tuple #[v, .bool true]) W := fun v W => by rfl
  refine callsD_of_wpS Try.func46 rfl fun c₀ cs hu => ?_
  apply wpS_seq
  apply wpS_region
  simp [wpOpsS, go_sem, recoverD, hu, Try.ntmps46, Exit.thenS, hta]
  apply wpS_seq
  apply wpS_region
  simp [wpOpsS, go_sem, recoverD, hu, Try.ntmps46, Exit.thenS, hta]
  refine wpS_cond (t := true) (by simp [Act.eval, Array.replicate]) ?_
  simp only [if_true]
  refine wpS_of_wp ?_
  go_wp2
  cases c₀
  simp_all [bodyPostS, results, Try.results46]

theorem idle46 (a b : Addr) (w : World) :
    CallsD Try.prog 46 #[.pointer (some a), .pointer (some b)] .returning w fun e u' w' => e = .returned (.tuple #[]) ∧ u' = .returning ∧ w' = w := by
  have hta : ∀ (W : World), (Instr.typeAssert .nilIface 20 28 true).run Try.prog W = .ok (.tuple #[.int .i64 0, .bool false]) W := fun W => by rfl
  refine callsD_of_wpS Try.func46 rfl fun c₀ cs hu => ?_
  apply wpS_seq
  apply wpS_region
  simp [wpOpsS, go_sem, recoverD, hu, Try.ntmps46, Exit.thenS, hta]
  apply wpS_seq
  apply wpS_region
  simp [wpOpsS, go_sem, recoverD, hu, Try.ntmps46, Exit.thenS, hta]
  refine wpS_cond (t := false) (by simp [Act.eval, Array.replicate]) ?_
  simp only [Bool.false_eq_true, if_false]
  refine wpS_of_wp (wp_skip ?_)
  cases c₀
  simp_all [bodyPostS, results, Try.results46]

def cursor_Cursor_Get16.f (s0_0 : ByteArray) (s0_1 : Int) (s0_2 : Int) : Option (Int × ByteArray × Int × Int) :=
  if 0 ≤ s0_1 ∧ s0_1 ≤ (s0_0.size : Int) ∧ (s0_0.size : Int) ≤ 9223372036854775807 then
    (if s0_2 = 0 then (if s0_1 + 2 ≤ (s0_0.size : Int) then some (beNum s0_0 s0_1 2, s0_0, s0_1 + 2, 0) else some (0, s0_0, s0_1, 110)) else some (0, s0_0, s0_1, s0_2))
  else none
set_option maxHeartbeats 1000000 in
theorem clo41_ok (g v : Nat) (s : ByteArray) (p e : Int) (w0 w : World) (hv : w.cell? ⟨v, 0, none⟩ = some (.pointer (some ⟨g, 0, none⟩))) (hI : IsS59 w0 w g s p e) (hp : 0 ≤ p) (hs : p + 2 ≤ s.size) (hm : (s.size : Int) ≤ 9223372036854775807) :
    Calls Try.prog 41 #[.pointer (some ⟨v, 0, none⟩)] w fun en w' => en = .returned (.int .i64 (beNum s p 2)) ∧ w.grownBy w' (some g) ∧ IsS59 w0 w' g s (p + 2) e := by
  go_enter Try.func41, Try.ntmps41
  go_wp2_with fail
  refine (number_ok g s p e 2 (by omega) w0 _ hI hp hs hm).mono ?_
  rintro en w1 ⟨rfl, hg1, hI1⟩
  have HG1 := Aside0.mk hg1
  have HI1 := Aside0.mk hI1
  clear hg1 hI1 hI
  go_wp2
  go_ret
  exact ⟨rfl, HG1.out, HI1.out⟩

set_option maxHeartbeats 1000000 in
theorem clo41_no (g v : Nat) (s : ByteArray) (p e : Int) (w0 w : World) (hv : w.cell? ⟨v, 0, none⟩ = some (.pointer (some ⟨g, 0, none⟩))) (hI : IsS59 w0 w g s p e) (hp : 0 ≤ p) (hs : (s.size : Int) < p + 2) (hps : p ≤ s.size) (hm : (s.size : Int) ≤ 9223372036854775807) :
    Calls Try.prog 41 #[.pointer (some ⟨v, 0, none⟩)] w fun en w' => en = gives 110 ∧ w.grownBy w' (some g) ∧ IsS59 w0 w' g s p e := by
  go_enter Try.func41, Try.ntmps41
  go_wp2_with fail
  refine (number_no g s p e 2 w0 _ hI hp hs hps hm).mono ?_
  rintro en w1 ⟨rfl, hg1, hI1⟩
  exact ⟨rfl, rfl, hg1, hI1⟩

set_option maxHeartbeats 2000000 in
theorem reads41_fault (g v : Nat) (s : ByteArray) (p e : Int) (w0 w : World) (hI : IsS59 w0 w g s p e) (he : e ≠ 0) :
    Calls Try.prog 38 #[.pointer (some ⟨g, 0, none⟩), .func (.func 41) #[] #[.pointer (some ⟨v, 0, none⟩)]] w fun en w' => en = .returned (.int .i64 0) ∧ w.grownBy w' (some g) ∧ IsS59 w0 w' g s p e := by
  have hmf : ∀ (fn : Fn) (first cap : Array Value) (w : World), (Instr.makeFunc fn first cap).run Try.prog w = .ok (.func fn first cap) w := fun _ _ _ _ => rfl
  have HI := Aside0.mk hI
  have hlt := IsS59.lt hI
  obtain ⟨HG, hg⟩ := hI
  have h1 := cellS59_1 HG
  have h2 := cellS59_2 HG
  clear HG hg
  have hb1 : (e == 0) = false := beq_eq_false_iff_ne.mpr he
  have hb2 : (e != 0) = true := bne_iff_ne.mpr he
  clear he
  go_enter_defers Try.func38, Try.ntmps38
  go_wp2
  refine leaves_cons (f := 46) (args := #[.pointer (some ⟨w.heap.size + 1, 0, none⟩), .pointer (some ⟨w.heap.size, 0, none⟩)]) (by simp) (by simp [go_sem]) ?_
  refine (idle46 _ _ _).mono ?_
  rintro en u' w'' ⟨rfl, rfl, rfl⟩
  refine ⟨_, results_tmp rfl _ _ _, rfl, gb_alloc (gb_alloc (gb_refl w _) _) _, IsS59.alloc (IsS59.alloc HI.out _) _⟩

set_option maxHeartbeats 2000000 in
theorem reads41_ok (g v : Nat) (s : ByteArray) (p : Int) (w0 w : World) (hv : w.cell? ⟨v, 0, none⟩ = some (.pointer (some ⟨g, 0, none⟩))) (hI : IsS59 w0 w g s p 0) (hp : 0 ≤ p) (hs : p + 2 ≤ s.size) (hm : (s.size : Int) ≤ 9223372036854775807) :
    Calls Try.prog 38 #[.pointer (some ⟨g, 0, none⟩), .func (.func 41) #[] #[.pointer (some ⟨v, 0, none⟩)]] w fun en w' => en = .returned (.int .i64 (beNum s p 2)) ∧ w.grownBy w' (some g) ∧ IsS59 w0 w' g s (p + 2) 0 := by
  have hmf : ∀ (fn : Fn) (first cap : Array Value) (w : World), (Instr.makeFunc fn first cap).run Try.prog w = .ok (.func fn first cap) w := fun _ _ _ _ => rfl
  have HI := Aside0.mk hI
  have hlt := IsS59.lt hI
  have hvb := World.block_lt_of_cell? w _ hv
  obtain ⟨HG, hg⟩ := hI
  have h1 := cellS59_1 HG
  have h2 := cellS59_2 HG
  clear HG hg
  have HV := Aside0.mk hv
  clear hv
  go_enter_defers Try.func38, Try.ntmps38
  go_wp2_with fail
  refine (clo41_ok g v s p 0 w0 _ ?_ (IsS59.alloc (IsS59.alloc HI.out _) _) hp hs hm).mono ?_
  · rw [World.cell?_alloc_past _ _ _ (by simp; omega), World.cell?_alloc_past _ _ _ hvb]; exact HV.out
  rintro en w1 ⟨rfl, hg1, hI1⟩
  have HG1 := Aside0.mk hg1
  have HI1 := Aside0.mk hI1
  clear hg1 hI1
  go_wp2
  refine leaves_cons (f := 46) (args := #[.pointer (some ⟨w.heap.size + 1, 0, none⟩), .pointer (some ⟨w.heap.size, 0, none⟩)]) (by simp) (by simp [go_sem]) ?_
  refine (idle46 _ _ _).mono ?_
  rintro en u' w'' ⟨rfl, rfl, rfl⟩
  exact ⟨_, results_tmp rfl _ _ _, rfl, gb_trans (gb_alloc (gb_alloc (gb_refl w _) _) _) HG1.out, HI1.out⟩

set_option maxHeartbeats 2000000 in
theorem reads41_no (g v : Nat) (s : ByteArray) (p : Int) (w0 w : World) (hv : w.cell? ⟨v, 0, none⟩ = some (.pointer (some ⟨g, 0, none⟩))) (hI : IsS59 w0 w g s p 0) (hp : 0 ≤ p) (hs : (s.size : Int) < p + 2) (hps : p ≤ s.size) (hm : (s.size : Int) ≤ 9223372036854775807) :
    Calls Try.prog 38 #[.pointer (some ⟨g, 0, none⟩), .func (.func 41) #[] #[.pointer (some ⟨v, 0, none⟩)]] w fun en w' => en = .returned (.int .i64 0) ∧ w.grownBy w' (some g) ∧ IsS59 w0 w' g s p 110 := by
  have hmf : ∀ (fn : Fn) (first cap : Array Value) (w : World), (Instr.makeFunc fn first cap).run Try.prog w = .ok (.func fn first cap) w := fun _ _ _ _ => rfl
  have HI := Aside0.mk hI
  have hlt := IsS59.lt hI
  have hvb := World.block_lt_of_cell? w _ hv
  obtain ⟨HG, hg⟩ := hI
  have h1 := cellS59_1 HG
  have h2 := cellS59_2 HG
  clear HG hg
  have HV := Aside0.mk hv
  clear hv
  go_enter_defers Try.func38, Try.ntmps38
  go_wp2_with fail
  refine (clo41_no g v s p 0 w0 _ ?_ (IsS59.alloc (IsS59.alloc HI.out _) _) hp hs hps hm).mono ?_
  · rw [World.cell?_alloc_past _ _ _ (by simp; omega), World.cell?_alloc_past _ _ _ hvb]; exact HV.out
  rintro en w1 ⟨rfl, hg1, hI1⟩
  have HG1 := Aside0.mk hg1
  have HI1 := Aside0.mk hI1
  clear hg1 hI1
  obtain ⟨HGG, hgg⟩ := HI1.out
  refine leaves_cons (f := 46) (args := #[.pointer (some ⟨w.heap.size + 1, 0, none⟩), .pointer (some ⟨w.heap.size, 0, none⟩)]) (by simp) (by simp [go_sem]) ?_
  refine (caught46 ⟨w.heap.size + 1, 0, none⟩ ⟨w.heap.size, 0, none⟩ g p 110 [] _ ?_ ?_ _ _ (cellS59_1 HGG) (cellS59_2 HGG) (blk_frozen HGG 1) (blk_frozen HGG 2)).mono ?_
  · refine HG1.out.cell ?_ (by simp; omega)
    simp [go_sem]
  · refine HG1.out.cell ?_ (by simp; omega)
    simp [go_sem]
  rintro en u' w'' ⟨rfl, rfl, rfl⟩
  simp [Leaves, settle, results, Try.results38, go_sem]
  exact ⟨gb_set (gb_set (gb_trans (gb_alloc (gb_alloc (gb_refl w _) _) _) HG1.out) _ _) _ _, IsS59.set_2 (IsS59.set_1 HI1.out _) _⟩

set_option maxHeartbeats 2000000 in
theorem cursor_Cursor_Get16.calls (g : Nat) (s : ByteArray) (p e : Int) (r1 : Int) (r2 : ByteArray) (r3 : Int) (r4 : Int) (w0 w : World) (hI : IsS59 w0 w g s p e) (hB : Below w0.heap.size w0 w) (h : cursor_Cursor_Get16.f s p e = some (r1, r2, r3, r4)) :
    Calls Try.prog 25 #[.pointer (some ⟨g, 0, none⟩)] w fun e w' => e = .returned (.int .i64 r1) ∧ IsS59 w0 w' g r2 r3 r4 ∧ Below w0.heap.size w0 w' ∧ KeepBut w w' g none := by
  have hmf : ∀ (fn : Fn) (first cap : Array Value) (w : World), (Instr.makeFunc fn first cap).run Try.prog w = .ok (.func fn first cap) w := fun _ _ _ _ => rfl
  have HI := Aside0.mk hI
  have HB := Aside0.mk hB
  have HH := Aside0.mk h
  have hge := hI.ge
  have fin : ∀ w', (w.alloc (.cells #[.pointer (some ⟨g, 0, none⟩)] 35)).grownBy w' (some g) → Below w0.heap.size w0 w' ∧ KeepBut w w' g none := fun w' hg => by
    have hg' := gb_trans (gb_alloc (gb_refl w (some g)) (.cells #[.pointer (some ⟨g, 0, none⟩)] 35)) hg
    exact ⟨HB.out.grown hg' HB.out.size (fun k hk => by injection hk with hk; omega), hg'.size, fun i hi hn _ => hg'.block i hi (by simpa using hn)⟩
  have FIN := Aside0.mk fin
  clear hI hB h hge fin
  go_enter Try.func25, Try.ntmps25
  go_wp2_with fail
  have H := HH.out
  clear HH
  simp only [cursor_Cursor_Get16.f] at H
  split at H
  · rename_i hc
    obtain ⟨hc1, hc2, hc3⟩ := hc
    split at H
    · rename_i he
      subst he
      split at H
      · rename_i ho
        simp only [Option.some.injEq, Prod.mk.injEq] at H
        obtain ⟨rfl, rfl, rfl, rfl⟩ := H
        refine (reads41_ok g w.heap.size s p w0 _ (by simp [go_sem]) (IsS59.alloc HI.out _) hc1 ho hc3).mono ?_
        rintro en w1 ⟨rfl, hg1, hI1⟩
        have R := Aside0.mk (And.intro hI1 (FIN.out _ hg1))
        clear hg1 hI1 FIN
        go_wp2
        go_ret
        exact ⟨rfl, R.out⟩
      · rename_i ho
        simp only [Option.some.injEq, Prod.mk.injEq] at H
        obtain ⟨rfl, rfl, rfl, rfl⟩ := H
        refine (reads41_no g w.heap.size s p w0 _ (by simp [go_sem]) (IsS59.alloc HI.out _) hc1 (by omega) hc2 hc3).mono ?_
        rintro en w1 ⟨rfl, hg1, hI1⟩
        have R := Aside0.mk (And.intro hI1 (FIN.out _ hg1))
        clear hg1 hI1 FIN
        go_wp2
        go_ret
        exact ⟨rfl, R.out⟩
    · rename_i he
      simp only [Option.some.injEq, Prod.mk.injEq] at H
      obtain ⟨rfl, rfl, rfl, rfl⟩ := H
      refine (reads41_fault g w.heap.size s p e w0 _ (IsS59.alloc HI.out _) he).mono ?_
      rintro en w1 ⟨rfl, hg1, hI1⟩
      have R := Aside0.mk (And.intro hI1 (FIN.out _ hg1))
      clear hg1 hI1 FIN he
      go_wp2
      go_ret
      exact ⟨rfl, R.out⟩
  · exact absurd H (by simp)


/-! ### quipulaw11_fixed: function 14 -/
def quipulaw11_fixed.j0 : Nat → Bool → ByteArray → Int → Int → Option (Bool)
  | 0, _, _, _, _ => none
  | k + 1, x23, x127000, x127001, x127002 => if x23 = true then (some false) else ((cursor_Cursor_Fault.f x127000 x127001 x127002).bind fun bt139 => ((cursor_PutText.f k (⟨#[97, 98]⟩ : ByteArray)).bind fun bt144 => (if bt139.1 = 110 then (if bt139.2.1 = 2 then (if bt144.1.toList = ([0, 2, 97, 98] : List UInt8) then (if bt144.2 = 0 then ((cursor_Put32.f k (-1)).bind fun t146 => (if t146.toList = ([255, 255, 255, 255] : List UInt8) then ((cursor_Rune.f k (⟨#[226, 130, 172]⟩ : ByteArray) 0).bind fun t147 => (if t147 = 3 then ((cursor_Runes.f k (⟨#[128]⟩ : ByteArray)).bind fun t148 => (if t148 = (-1) then ((cursor_Valid.f k (⟨#[97]⟩ : ByteArray)).bind fun t149 => (some t149)) else (some false))) else (some false))) else (some false))) else (some false)) else (some false)) else (some false)) else (some false))))
def quipulaw11_fixed.f (k : Nat)  : Option (Bool) := (cursor_New.f (⟨#[1, 2, 3]⟩ : ByteArray)).bind fun bt123 => ((cursor_Cursor_Get16.f bt123.1 bt123.2.1 bt123.2.2).bind fun bt127 => (if bt127.1 = 258 then ((cursor_Cursor_Get16.f bt127.2.1 bt127.2.2.1 bt127.2.2.2).bind fun bt131 => (if bt131.1 = 0 then ((cursor_Cursor_At.f bt131.2.1 bt131.2.2.1 bt131.2.2.2).bind fun bt135 => (quipulaw11_fixed.j0 k (bt135.1 != 2) bt135.2.1 bt135.2.2.1 bt135.2.2.2)) else (quipulaw11_fixed.j0 k true bt131.2.1 bt131.2.2.1 bt131.2.2.2))) else (quipulaw11_fixed.j0 k true bt127.2.1 bt127.2.2.1 bt127.2.2.2)))
theorem quipulaw11_fixed.mono_l : ∀ k, (∀ y0 y1 y2 y3, LeO (quipulaw11_fixed.j0 k y0 y1 y2 y3) (quipulaw11_fixed.j0 (k + 1) y0 y1 y2 y3))
  | 0 => fun _ _ _ _ r h => by simp [quipulaw11_fixed.j0] at h
  | k + 1 => by
    have ih0 := quipulaw11_fixed.mono_l k
    · intro y0 y1 y2 y3
      unfold quipulaw11_fixed.j0
      repeat' first
      | (with_reducible exact ih0 _ _ _ _)
      | (with_reducible exact cursor_Put32.mono _ _)
      | (with_reducible exact cursor_PutText.mono _ _)
      | (with_reducible exact cursor_Rune.mono _ _ _)
      | (with_reducible exact cursor_Runes.mono _ _)
      | (with_reducible exact cursor_Valid.mono _ _)
      | (with_reducible exact LeO.refl _)
      | (with_reducible exact LeO.none _)
      | (with_reducible refine LeO.ite ?_ ?_)
      | (with_reducible refine LeO.bind ?_ (fun _ => ?_))
      | exact ih0 _ _ _ _
      | exact cursor_Put32.mono _ _
      | exact cursor_PutText.mono _ _
      | exact cursor_Rune.mono _ _ _
      | exact cursor_Runes.mono _ _
      | exact cursor_Valid.mono _ _
      | exact LeO.none _
      | refine LeO.ite ?_ ?_
      | refine LeO.bind ?_ (fun _ => ?_)
theorem quipulaw11_fixed.mono : ∀ k, LeO (quipulaw11_fixed.f k ) (quipulaw11_fixed.f (k + 1) ) := by
  intro  k
  have ih0 := quipulaw11_fixed.mono_l k
  unfold quipulaw11_fixed.f
  repeat' first
      | (with_reducible exact ih0 _ _ _ _)
      | (with_reducible exact cursor_Put32.mono _ _)
      | (with_reducible exact cursor_PutText.mono _ _)
      | (with_reducible exact cursor_Rune.mono _ _ _)
      | (with_reducible exact cursor_Runes.mono _ _)
      | (with_reducible exact cursor_Valid.mono _ _)
      | (with_reducible exact LeO.refl _)
      | (with_reducible exact LeO.none _)
      | (with_reducible refine LeO.ite ?_ ?_)
      | (with_reducible refine LeO.bind ?_ (fun _ => ?_))
      | exact ih0 _ _ _ _
      | exact cursor_Put32.mono _ _
      | exact cursor_PutText.mono _ _
      | exact cursor_Rune.mono _ _ _
      | exact cursor_Runes.mono _ _
      | exact cursor_Valid.mono _ _
      | exact LeO.none _
      | refine LeO.ite ?_ ?_
      | refine LeO.bind ?_ (fun _ => ?_)
set_option maxHeartbeats 8000000 in
set_option maxRecDepth 100000 in
theorem quipulaw11_fixed.calls (k : Nat)  (r : Bool) (w : World) (h : quipulaw11_fixed.f k  = some r) :
    Calls Try.prog 14 #[] w fun e w' => e = .returned (.bool r) ∧ Below w.heap.size w w' := by
  have HB := Aside0.mk (Below.refl w.heap.size w)
  have H : ((cursor_New.f (⟨#[1, 2, 3]⟩ : ByteArray)).bind fun bt123 => ((cursor_Cursor_Get16.f bt123.1 bt123.2.1 bt123.2.2).bind fun bt127 => (if bt127.1 = 258 then ((cursor_Cursor_Get16.f bt127.2.1 bt127.2.2.1 bt127.2.2.2).bind fun bt131 => (if bt131.1 = 0 then ((cursor_Cursor_At.f bt131.2.1 bt131.2.2.1 bt131.2.2.2).bind fun bt135 => (quipulaw11_fixed.j0 k (bt135.1 != 2) bt135.2.1 bt135.2.2.1 bt135.2.2.2)) else (quipulaw11_fixed.j0 k true bt131.2.1 bt131.2.2.1 bt131.2.2.2))) else (quipulaw11_fixed.j0 k true bt127.2.1 bt127.2.2.1 bt127.2.2.2)))) = some r := h
  clear h
  replace H := Option.bind_eq_some_iff.mp H
  obtain ⟨⟨t123, t124, t125⟩, A10, H⟩ := H
  replace H : ((cursor_Cursor_Get16.f t123 t124 t125).bind fun bt127 => (if bt127.1 = 258 then ((cursor_Cursor_Get16.f bt127.2.1 bt127.2.2.1 bt127.2.2.2).bind fun bt131 => (if bt131.1 = 0 then ((cursor_Cursor_At.f bt131.2.1 bt131.2.2.1 bt131.2.2.2).bind fun bt135 => (quipulaw11_fixed.j0 k (bt135.1 != 2) bt135.2.1 bt135.2.2.1 bt135.2.2.2)) else (quipulaw11_fixed.j0 k true bt131.2.1 bt131.2.2.1 bt131.2.2.2))) else (quipulaw11_fixed.j0 k true bt127.2.1 bt127.2.2.1 bt127.2.2.2))) = some r := H
  have A1 := Aside0.mk A10
  clear A10
  have HC2 := Aside0.mk H
  clear H
  go_enter Try.func14, Try.ntmps14
  go_upto_region 2 with (first | ((with_reducible refine gate_callee (f := 21) rfl ?_); refine goesL_ (some 6) rfl rfl Try.func21 (by kernel_rfl) rfl #[.string (⟨#[1, 2, 3]⟩ : ByteArray)] rfl (by (try simp only [List.map_toArray, List.map_cons, List.map_nil]); first | done | rfl | (simp only [List.length_drop, List.length_take]; rfl)) ?_; (with_reducible refine (cursor_New.calls (⟨#[1, 2, 3]⟩ : ByteArray) t123 t124 t125 w _ ?side1 A1.out).mono ?_); (case side1 => repeat (first | (with_reducible first | exact HB.out | apply below_alloc | apply pw_below_drewN | apply below_drew1) | exact HB.out)); rintro e w3 ⟨g126, rfl, hi, hb, hb2⟩; refine ⟨_, rfl, ?_⟩; have n0_ := Aside0.mk (hb); have n1_ := Aside0.mk (hi); clear HB; have HB := n0_; have HI126 := n1_; clear n0_ n1_; (try clear hb); (try clear hb2); (try clear hk); (try clear hi)))
  (try simp only [Act.put, List.setIfInBounds_toArray, List.set_cons_zero, List.set_cons_succ])
  go_cut [23] (fun v23 wc => ∃ (kq : Nat) (x23_1 : Bool) (x127000_1 : ByteArray) (x127001_1 : Int) (x127002_1 : Int), v23 = .bool x23_1 ∧ Aside0 (quipulaw11_fixed.j0 kq x23_1 x127000_1 x127001_1 x127002_1 = some r) ∧ Aside0 (kq ≤ k) ∧ Aside0 (IsS59 w wc g126 x127000_1 x127001_1 x127002_1) ∧ Aside0 (Below w.heap.size w wc))
  case first =>
    have H := HC2.out
    clear HC2
    replace H := Option.bind_eq_some_iff.mp H
    obtain ⟨⟨t127, t128, t129, t130⟩, A40, H⟩ := H
    replace H : (if t127 = 258 then ((cursor_Cursor_Get16.f t128 t129 t130).bind fun bt131 => (if bt131.1 = 0 then ((cursor_Cursor_At.f bt131.2.1 bt131.2.2.1 bt131.2.2.2).bind fun bt135 => (quipulaw11_fixed.j0 k (bt135.1 != 2) bt135.2.1 bt135.2.2.1 bt135.2.2.2)) else (quipulaw11_fixed.j0 k true bt131.2.1 bt131.2.2.1 bt131.2.2.2))) else (quipulaw11_fixed.j0 k true t128 t129 t130)) = some r := H
    have A4 := Aside0.mk A40
    clear A40
    by_cases c5 : t127 = 258
    · rw [if_pos c5] at H
      have c5b0 : (t127 == 258) = true := beq_iff_eq.mpr c5
      have c5b1 : (t127 != 258) = false := bne_eq_false_iff_eq.mpr c5
      clear c5
      (first | rw [c5b0] | (simp only [i64_w, i32_w]; rw [c5b0]) | skip)
      replace H := Option.bind_eq_some_iff.mp H
      obtain ⟨⟨t131, t132, t133, t134⟩, A60, H⟩ := H
      replace H : (if t131 = 0 then ((cursor_Cursor_At.f t132 t133 t134).bind fun bt135 => (quipulaw11_fixed.j0 k (bt135.1 != 2) bt135.2.1 bt135.2.2.1 bt135.2.2.2)) else (quipulaw11_fixed.j0 k true t132 t133 t134)) = some r := H
      have A6 := Aside0.mk A60
      clear A60
      by_cases c7 : t131 = 0
      · rw [if_pos c7] at H
        have c7b0 : (t131 == 0) = true := beq_iff_eq.mpr c7
        have c7b1 : (t131 != 0) = false := bne_eq_false_iff_eq.mpr c7
        clear c7
        replace H := Option.bind_eq_some_iff.mp H
        obtain ⟨⟨t135, t136, t137, t138⟩, A80, H⟩ := H
        replace H : (quipulaw11_fixed.j0 k (t135 != 2) t136 t137 t138) = some r := H
        have A8 := Aside0.mk A80
        clear A80
        have H' := Aside0.mk H
        clear H
        go_wp2_with (first | (go_at_call 25; (with_reducible refine (cursor_Cursor_Get16.calls g126 t123 t124 t125 t127 t128 t129 t130 w _ ?side1 ?side2 A4.out).mono ?_); (case side1 => repeat (first | (with_reducible first | exact HI126.out | apply IsS59.alloc | apply IsS59.drewN | apply IsS59.drew | apply IsS59.set_0 | apply IsS59.set_1 | apply IsS59.set_2) | exact HI126.out)); (case side2 => repeat (first | (with_reducible first | exact HB.out | apply below_alloc | apply pw_below_drewN | apply below_drew1 | refine below_set ?_ (IsS59.ge HI126.out)) | exact HB.out)); rintro e w9 ⟨rfl, hi, hb, hk⟩; have n0_ := Aside0.mk (hb); have n1_ := Aside0.mk (hi); clear HB; clear HI126; have HB := n0_; have HI126 := n1_; clear n0_ n1_; (try clear hb); (try clear hb2); (try clear hk); (try clear hi)) | (go_at_call 25; (with_reducible refine (cursor_Cursor_Get16.calls g126 t128 t129 t130 t131 t132 t133 t134 w _ ?side1 ?side2 A6.out).mono ?_); (case side1 => repeat (first | (with_reducible first | exact HI126.out | apply IsS59.alloc | apply IsS59.drewN | apply IsS59.drew | apply IsS59.set_0 | apply IsS59.set_1 | apply IsS59.set_2) | exact HI126.out)); (case side2 => repeat (first | (with_reducible first | exact HB.out | apply below_alloc | apply pw_below_drewN | apply below_drew1 | refine below_set ?_ (IsS59.ge HI126.out)) | exact HB.out)); rintro e w10 ⟨rfl, hi, hb, hk⟩; have n0_ := Aside0.mk (hb); have n1_ := Aside0.mk (hi); clear HB; clear HI126; have HB := n0_; have HI126 := n1_; clear n0_ n1_; (try clear hb); (try clear hb2); (try clear hk); (try clear hi)) | (go_at_call 22; (with_reducible refine (cursor_Cursor_At.calls g126 t132 t133 t134 t135 t136 t137 t138 w _ ?side1 ?side2 A8.out).mono ?_); (case side1 => repeat (first | (with_reducible first | exact HI126.out | apply IsS59.alloc | apply IsS59.drewN | apply IsS59.drew | apply IsS59.set_0 | apply IsS59.set_1 | apply IsS59.set_2) | exact HI126.out)); (case side2 => repeat (first | (with_reducible first | exact HB.out | apply below_alloc | apply pw_below_drewN | apply below_drew1 | refine below_set ?_ (IsS59.ge HI126.out)) | exact HB.out)); rintro e w11 ⟨rfl, hi, hb, hk⟩; have n0_ := Aside0.mk (hb); have n1_ := Aside0.mk (hi); clear HB; clear HI126; have HB := n0_; have HI126 := n1_; clear n0_ n1_; (try clear hb); (try clear hb2); (try clear hk); (try clear hi)))
        go_meet
        case rel => exact ⟨_, ((t135 != 2)), (t136), (t137), (t138), (by first | rfl | (simp; done) | (simp [*]; done)), H', ⟨by first | omega | exact Nat.le_refl _⟩, ⟨by repeat (first | (with_reducible first | exact HI126.out | apply IsS59.alloc | apply IsS59.drewN | apply IsS59.drew | apply IsS59.set_0 | apply IsS59.set_1 | apply IsS59.set_2) | exact HI126.out)⟩, ⟨by repeat (first | (with_reducible first | exact HB.out | apply below_alloc | apply pw_below_drewN | apply below_drew1 | refine below_set ?_ (IsS59.ge HI126.out)) | exact HB.out)⟩⟩
      · rw [if_neg c7] at H
        have c7b0 : (t131 == 0) = false := beq_eq_false_iff_ne.mpr c7
        have c7b1 : (t131 != 0) = true := bne_iff_ne.mpr c7
        have H' := Aside0.mk H
        clear H
        go_wp2_with (first | (go_at_call 25; (with_reducible refine (cursor_Cursor_Get16.calls g126 t123 t124 t125 t127 t128 t129 t130 w _ ?side1 ?side2 A4.out).mono ?_); (case side1 => repeat (first | (with_reducible first | exact HI126.out | apply IsS59.alloc | apply IsS59.drewN | apply IsS59.drew | apply IsS59.set_0 | apply IsS59.set_1 | apply IsS59.set_2) | exact HI126.out)); (case side2 => repeat (first | (with_reducible first | exact HB.out | apply below_alloc | apply pw_below_drewN | apply below_drew1 | refine below_set ?_ (IsS59.ge HI126.out)) | exact HB.out)); rintro e w12 ⟨rfl, hi, hb, hk⟩; have n0_ := Aside0.mk (hb); have n1_ := Aside0.mk (hi); clear HB; clear HI126; have HB := n0_; have HI126 := n1_; clear n0_ n1_; (try clear hb); (try clear hb2); (try clear hk); (try clear hi)) | (go_at_call 25; (with_reducible refine (cursor_Cursor_Get16.calls g126 t128 t129 t130 t131 t132 t133 t134 w _ ?side1 ?side2 A6.out).mono ?_); (case side1 => repeat (first | (with_reducible first | exact HI126.out | apply IsS59.alloc | apply IsS59.drewN | apply IsS59.drew | apply IsS59.set_0 | apply IsS59.set_1 | apply IsS59.set_2) | exact HI126.out)); (case side2 => repeat (first | (with_reducible first | exact HB.out | apply below_alloc | apply pw_below_drewN | apply below_drew1 | refine below_set ?_ (IsS59.ge HI126.out)) | exact HB.out)); rintro e w13 ⟨rfl, hi, hb, hk⟩; have n0_ := Aside0.mk (hb); have n1_ := Aside0.mk (hi); clear HB; clear HI126; have HB := n0_; have HI126 := n1_; clear n0_ n1_; (try clear hb); (try clear hb2); (try clear hk); (try clear hi)))
        go_meet
        case rel => exact ⟨_, (true), (t132), (t133), (t134), (by first | rfl | (simp; done) | (simp [*]; done)), H', ⟨by first | omega | exact Nat.le_refl _⟩, ⟨by repeat (first | (with_reducible first | exact HI126.out | apply IsS59.alloc | apply IsS59.drewN | apply IsS59.drew | apply IsS59.set_0 | apply IsS59.set_1 | apply IsS59.set_2) | exact HI126.out)⟩, ⟨by repeat (first | (with_reducible first | exact HB.out | apply below_alloc | apply pw_below_drewN | apply below_drew1 | refine below_set ?_ (IsS59.ge HI126.out)) | exact HB.out)⟩⟩
    · rw [if_neg c5] at H
      have c5b0 : (t127 == 258) = false := beq_eq_false_iff_ne.mpr c5
      have c5b1 : (t127 != 258) = true := bne_iff_ne.mpr c5
      (first | rw [c5b0] | (simp only [i64_w, i32_w]; rw [c5b0]) | skip)
      have H' := Aside0.mk H
      clear H
      go_wp2_with (first | (go_at_call 25; (with_reducible refine (cursor_Cursor_Get16.calls g126 t123 t124 t125 t127 t128 t129 t130 w _ ?side1 ?side2 A4.out).mono ?_); (case side1 => repeat (first | (with_reducible first | exact HI126.out | apply IsS59.alloc | apply IsS59.drewN | apply IsS59.drew | apply IsS59.set_0 | apply IsS59.set_1 | apply IsS59.set_2) | exact HI126.out)); (case side2 => repeat (first | (with_reducible first | exact HB.out | apply below_alloc | apply pw_below_drewN | apply below_drew1 | refine below_set ?_ (IsS59.ge HI126.out)) | exact HB.out)); rintro e w14 ⟨rfl, hi, hb, hk⟩; have n0_ := Aside0.mk (hb); have n1_ := Aside0.mk (hi); clear HB; clear HI126; have HB := n0_; have HI126 := n1_; clear n0_ n1_; (try clear hb); (try clear hb2); (try clear hk); (try clear hi)))
      go_meet
      case rel => exact ⟨_, (true), (t128), (t129), (t130), (by first | rfl | (simp; done) | (simp [*]; done)), H', ⟨by first | omega | exact Nat.le_refl _⟩, ⟨by repeat (first | (with_reducible first | exact HI126.out | apply IsS59.alloc | apply IsS59.drewN | apply IsS59.drew | apply IsS59.set_0 | apply IsS59.set_1 | apply IsS59.set_2) | exact HI126.out)⟩, ⟨by repeat (first | (with_reducible first | exact HB.out | apply below_alloc | apply pw_below_drewN | apply below_drew1 | refine below_set ?_ (IsS59.ge HI126.out)) | exact HB.out)⟩⟩
  case rest =>
    clear HC2
    try clear c1
    try clear c2
    try clear p2
    try clear c5
    try clear c5b0
    try clear c5b1
    try clear c7
    try clear c7b0
    try clear c7b1
    try clear c14
    obtain ⟨kq, x23_1, x127000_1, x127001_1, x127002_1, rfl, HA, HJ1, HI126, HB⟩ := hcut
    cases kq with
    | zero => exact absurd HA.out (by simp [quipulaw11_fixed.j0])
    | succ kj1 =>
      have H := HA.out
      clear HA
      simp only [quipulaw11_fixed.j0] at H
      by_cases c15 : x23_1 = true
      · subst c15
        have H1 : (some false) = some r := by rw [if_pos rfl] at H; exact H
        clear H
        have H := H1
        clear H1
        obtain rfl := Option.some.inj H
        go_wp2
        go_ret
        exact ⟨by first | rfl | (simp [errW_none, errW_some] <;> rfl) | (simp [*, errW_none, errW_some] <;> rfl), by repeat (first | (with_reducible first | exact HB.out | apply below_alloc | apply pw_below_drewN | apply below_drew1 | refine below_set ?_ (IsS59.ge HI126.out)) | exact HB.out)⟩
      · replace c15 := Bool.eq_false_iff.mpr c15
        subst c15
        have H1 : ((cursor_Cursor_Fault.f x127000_1 x127001_1 x127002_1).bind fun bt139 => ((cursor_PutText.f kj1 (⟨#[97, 98]⟩ : ByteArray)).bind fun bt144 => (if bt139.1 = 110 then (if bt139.2.1 = 2 then (if bt144.1.toList = ([0, 2, 97, 98] : List UInt8) then (if bt144.2 = 0 then ((cursor_Put32.f kj1 (-1)).bind fun t146 => (if t146.toList = ([255, 255, 255, 255] : List UInt8) then ((cursor_Rune.f kj1 (⟨#[226, 130, 172]⟩ : ByteArray) 0).bind fun t147 => (if t147 = 3 then ((cursor_Runes.f kj1 (⟨#[128]⟩ : ByteArray)).bind fun t148 => (if t148 = (-1) then ((cursor_Valid.f kj1 (⟨#[97]⟩ : ByteArray)).bind fun t149 => (some t149)) else (some false))) else (some false))) else (some false))) else (some false)) else (some false)) else (some false)) else (some false)))) = some r := by rw [if_neg (show ¬ (false = true) by decide)] at H; exact H
        clear H
        have H := H1
        clear H1
        replace H := Option.bind_eq_some_iff.mp H
        obtain ⟨⟨t139, t140, t141, t142, t143⟩, A160, H⟩ := H
        replace H : ((cursor_PutText.f kj1 (⟨#[97, 98]⟩ : ByteArray)).bind fun bt144 => (if t139 = 110 then (if t140 = 2 then (if bt144.1.toList = ([0, 2, 97, 98] : List UInt8) then (if bt144.2 = 0 then ((cursor_Put32.f kj1 (-1)).bind fun t146 => (if t146.toList = ([255, 255, 255, 255] : List UInt8) then ((cursor_Rune.f kj1 (⟨#[226, 130, 172]⟩ : ByteArray) 0).bind fun t147 => (if t147 = 3 then ((cursor_Runes.f kj1 (⟨#[128]⟩ : ByteArray)).bind fun t148 => (if t148 = (-1) then ((cursor_Valid.f kj1 (⟨#[97]⟩ : ByteArray)).bind fun t149 => (some t149)) else (some false))) else (some false))) else (some false))) else (some false)) else (some false)) else (some false)) else (some false))) = some r := H
        have A16 := Aside0.mk A160
        clear A160
        replace H := Option.bind_eq_some_iff.mp H
        obtain ⟨⟨t144, t145⟩, A170, H⟩ := H
        replace H : (if t139 = 110 then (if t140 = 2 then (if t144.toList = ([0, 2, 97, 98] : List UInt8) then (if t145 = 0 then ((cursor_Put32.f kj1 (-1)).bind fun t146 => (if t146.toList = ([255, 255, 255, 255] : List UInt8) then ((cursor_Rune.f kj1 (⟨#[226, 130, 172]⟩ : ByteArray) 0).bind fun t147 => (if t147 = 3 then ((cursor_Runes.f kj1 (⟨#[128]⟩ : ByteArray)).bind fun t148 => (if t148 = (-1) then ((cursor_Valid.f kj1 (⟨#[97]⟩ : ByteArray)).bind fun t149 => (some t149)) else (some false))) else (some false))) else (some false))) else (some false)) else (some false)) else (some false)) else (some false)) = some r := H
        have A17 := Aside0.mk A170
        clear A170
        by_cases c18 : t139 = 110
        · rw [if_pos c18] at H
          have c18b0 : (t139 == 110) = true := beq_iff_eq.mpr c18
          have c18b1 : (t139 != 110) = false := bne_eq_false_iff_eq.mpr c18
          clear c18
          by_cases c19 : t140 = 2
          · rw [if_pos c19] at H
            have c19b0 : (t140 == 2) = true := beq_iff_eq.mpr c19
            have c19b1 : (t140 != 2) = false := bne_eq_false_iff_eq.mpr c19
            clear c19
            by_cases c20 : t144.toList = ([0, 2, 97, 98] : List UInt8)
            · rw [if_pos c20] at H
              have c20b0 : (t144.toList == ([0, 2, 97, 98] : List UInt8)) = true := beq_iff_eq.mpr c20
              have c20b1 : (t144.toList != ([0, 2, 97, 98] : List UInt8)) = false := bne_eq_false_iff_eq.mpr c20
              clear c20
              by_cases c21 : t145 = 0
              · rw [if_pos c21] at H
                have c21b0 : (t145 == 0) = true := beq_iff_eq.mpr c21
                have c21b1 : (t145 != 0) = false := bne_eq_false_iff_eq.mpr c21
                clear c21
                replace H := Option.bind_eq_some_iff.mp H
                obtain ⟨t146, A220, H⟩ := H
                replace H : (if t146.toList = ([255, 255, 255, 255] : List UInt8) then ((cursor_Rune.f kj1 (⟨#[226, 130, 172]⟩ : ByteArray) 0).bind fun t147 => (if t147 = 3 then ((cursor_Runes.f kj1 (⟨#[128]⟩ : ByteArray)).bind fun t148 => (if t148 = (-1) then ((cursor_Valid.f kj1 (⟨#[97]⟩ : ByteArray)).bind fun t149 => (some t149)) else (some false))) else (some false))) else (some false)) = some r := H
                have A22 := Aside0.mk A220
                clear A220
                by_cases c23 : t146.toList = ([255, 255, 255, 255] : List UInt8)
                · rw [if_pos c23] at H
                  have c23b0 : (t146.toList == ([255, 255, 255, 255] : List UInt8)) = true := beq_iff_eq.mpr c23
                  have c23b1 : (t146.toList != ([255, 255, 255, 255] : List UInt8)) = false := bne_eq_false_iff_eq.mpr c23
                  clear c23
                  replace H := Option.bind_eq_some_iff.mp H
                  obtain ⟨t147, A240, H⟩ := H
                  replace H : (if t147 = 3 then ((cursor_Runes.f kj1 (⟨#[128]⟩ : ByteArray)).bind fun t148 => (if t148 = (-1) then ((cursor_Valid.f kj1 (⟨#[97]⟩ : ByteArray)).bind fun t149 => (some t149)) else (some false))) else (some false)) = some r := H
                  have A24 := Aside0.mk A240
                  clear A240
                  by_cases c25 : t147 = 3
                  · rw [if_pos c25] at H
                    have c25b0 : (t147 == 3) = true := beq_iff_eq.mpr c25
                    have c25b1 : (t147 != 3) = false := bne_eq_false_iff_eq.mpr c25
                    clear c25
                    replace H := Option.bind_eq_some_iff.mp H
                    obtain ⟨t148, A260, H⟩ := H
                    replace H : (if t148 = (-1) then ((cursor_Valid.f kj1 (⟨#[97]⟩ : ByteArray)).bind fun t149 => (some t149)) else (some false)) = some r := H
                    have A26 := Aside0.mk A260
                    clear A260
                    by_cases c27 : t148 = (-1)
                    · rw [if_pos c27] at H
                      have c27b0 : (t148 == (-1)) = true := beq_iff_eq.mpr c27
                      have c27b1 : (t148 != (-1)) = false := bne_eq_false_iff_eq.mpr c27
                      clear c27
                      replace H := Option.bind_eq_some_iff.mp H
                      obtain ⟨t149, A280, H⟩ := H
                      replace H : (some t149) = some r := H
                      have A28 := Aside0.mk A280
                      clear A280
                      obtain rfl := Option.some.inj H
                      go_wp2_with (first | ((with_reducible refine gate_callee (f := 23) rfl ?_); refine goesL_ (some 26) rfl rfl Try.func23 (by kernel_rfl) rfl #[.pointer (some ⟨g126, 0, none⟩)] rfl (by (try simp only [List.map_toArray, List.map_cons, List.map_nil]); first | done | rfl | (simp only [List.length_drop, List.length_take]; rfl)) ?_; (with_reducible refine (cursor_Cursor_Fault.calls g126 x127000_1 x127001_1 x127002_1 t139 t140 t141 t142 t143 w _ ?side1 ?side2 A16.out).mono ?_); (case side1 => repeat (first | (with_reducible first | exact HI126.out | apply IsS59.alloc | apply IsS59.drewN | apply IsS59.drew | apply IsS59.set_0 | apply IsS59.set_1 | apply IsS59.set_2) | exact HI126.out)); (case side2 => repeat (first | (with_reducible first | exact HB.out | apply below_alloc | apply pw_below_drewN | apply below_drew1 | refine below_set ?_ (IsS59.ge HI126.out)) | exact HB.out)); rintro e w29 ⟨rfl, hi, hb, hk⟩; refine ⟨_, rfl, ?_⟩; have n0_ := Aside0.mk (hb); have n1_ := Aside0.mk (hi); clear HB; clear HI126; have HB := n0_; have HI126 := n1_; clear n0_ n1_; (try clear hb); (try clear hb2); (try clear hk); (try clear hi)) | ((with_reducible refine gate_callee (f := 15) rfl ?_); refine goesL_ (some 30) rfl rfl Try.func15 (by kernel_rfl) rfl #[.string (⟨#[97, 98]⟩ : ByteArray)] rfl (by (try simp only [List.map_toArray, List.map_cons, List.map_nil]); first | done | rfl | (simp only [List.length_drop, List.length_take]; rfl)) ?_; (with_reducible refine (cursor_PutText.calls kj1 (⟨#[97, 98]⟩ : ByteArray) t144 t145 _ A17.out).mono ?_); rintro e w30 ⟨rfl, hb⟩; refine ⟨_, rfl, ?_⟩; have n0_ := Aside0.mk (IsS59.below (by repeat (first | (with_reducible first | exact HI126.out | apply IsS59.alloc | apply IsS59.drewN | apply IsS59.drew | apply IsS59.set_0 | apply IsS59.set_1 | apply IsS59.set_2) | exact HI126.out)) hb); have n1_ := Aside0.mk (below_step (by repeat (first | (with_reducible first | exact HB.out | apply below_alloc | apply pw_below_drewN | apply below_drew1 | refine below_set ?_ (IsS59.ge HI126.out)) | exact HB.out)) hb); clear HI126; clear HB; have HI126 := n0_; have HB := n1_; clear n0_ n1_; (try clear hb); (try clear hb2); (try clear hk); (try clear hi)) | (go_at_call 20; (with_reducible refine (cursor_Put32.calls kj1 (-1) t146 _ A22.out).mono ?_); rintro e w31 ⟨rfl, hb⟩; have n0_ := Aside0.mk (IsS59.below (by repeat (first | (with_reducible first | exact HI126.out | apply IsS59.alloc | apply IsS59.drewN | apply IsS59.drew | apply IsS59.set_0 | apply IsS59.set_1 | apply IsS59.set_2) | exact HI126.out)) hb); have n1_ := Aside0.mk (below_step (by repeat (first | (with_reducible first | exact HB.out | apply below_alloc | apply pw_below_drewN | apply below_drew1 | refine below_set ?_ (IsS59.ge HI126.out)) | exact HB.out)) hb); clear HI126; clear HB; have HI126 := n0_; have HB := n1_; clear n0_ n1_; (try clear hb); (try clear hb2); (try clear hk); (try clear hi)) | (go_at_call 10; (with_reducible refine (cursor_Rune.calls kj1 (⟨#[226, 130, 172]⟩ : ByteArray) 0 t147 _ A24.out).mono ?_); rintro e w' ⟨rfl, ⟨nd, rfl⟩⟩) | (go_at_call 13; (with_reducible refine (cursor_Runes.calls kj1 (⟨#[128]⟩ : ByteArray) t148 _ A26.out).mono ?_); rintro e w' ⟨rfl, ⟨nd, rfl⟩⟩) | (go_at_call 12; (with_reducible refine (cursor_Valid.calls kj1 (⟨#[97]⟩ : ByteArray) t149 _ A28.out).mono ?_); rintro e w' ⟨rfl, ⟨nd, rfl⟩⟩))
                      go_ret
                      exact ⟨by first | rfl | (simp [errW_none, errW_some] <;> rfl) | (simp [*, errW_none, errW_some] <;> rfl), by repeat (first | (with_reducible first | exact HB.out | apply below_alloc | apply pw_below_drewN | apply below_drew1 | refine below_set ?_ (IsS59.ge HI126.out)) | exact HB.out)⟩
                    · rw [if_neg c27] at H
                      have c27b0 : (t148 == (-1)) = false := beq_eq_false_iff_ne.mpr c27
                      have c27b1 : (t148 != (-1)) = true := bne_iff_ne.mpr c27
                      obtain rfl := Option.some.inj H
                      go_wp2_with (first | ((with_reducible refine gate_callee (f := 23) rfl ?_); refine goesL_ (some 26) rfl rfl Try.func23 (by kernel_rfl) rfl #[.pointer (some ⟨g126, 0, none⟩)] rfl (by (try simp only [List.map_toArray, List.map_cons, List.map_nil]); first | done | rfl | (simp only [List.length_drop, List.length_take]; rfl)) ?_; (with_reducible refine (cursor_Cursor_Fault.calls g126 x127000_1 x127001_1 x127002_1 t139 t140 t141 t142 t143 w _ ?side1 ?side2 A16.out).mono ?_); (case side1 => repeat (first | (with_reducible first | exact HI126.out | apply IsS59.alloc | apply IsS59.drewN | apply IsS59.drew | apply IsS59.set_0 | apply IsS59.set_1 | apply IsS59.set_2) | exact HI126.out)); (case side2 => repeat (first | (with_reducible first | exact HB.out | apply below_alloc | apply pw_below_drewN | apply below_drew1 | refine below_set ?_ (IsS59.ge HI126.out)) | exact HB.out)); rintro e w32 ⟨rfl, hi, hb, hk⟩; refine ⟨_, rfl, ?_⟩; have n0_ := Aside0.mk (hb); have n1_ := Aside0.mk (hi); clear HB; clear HI126; have HB := n0_; have HI126 := n1_; clear n0_ n1_; (try clear hb); (try clear hb2); (try clear hk); (try clear hi)) | ((with_reducible refine gate_callee (f := 15) rfl ?_); refine goesL_ (some 30) rfl rfl Try.func15 (by kernel_rfl) rfl #[.string (⟨#[97, 98]⟩ : ByteArray)] rfl (by (try simp only [List.map_toArray, List.map_cons, List.map_nil]); first | done | rfl | (simp only [List.length_drop, List.length_take]; rfl)) ?_; (with_reducible refine (cursor_PutText.calls kj1 (⟨#[97, 98]⟩ : ByteArray) t144 t145 _ A17.out).mono ?_); rintro e w33 ⟨rfl, hb⟩; refine ⟨_, rfl, ?_⟩; have n0_ := Aside0.mk (IsS59.below (by repeat (first | (with_reducible first | exact HI126.out | apply IsS59.alloc | apply IsS59.drewN | apply IsS59.drew | apply IsS59.set_0 | apply IsS59.set_1 | apply IsS59.set_2) | exact HI126.out)) hb); have n1_ := Aside0.mk (below_step (by repeat (first | (with_reducible first | exact HB.out | apply below_alloc | apply pw_below_drewN | apply below_drew1 | refine below_set ?_ (IsS59.ge HI126.out)) | exact HB.out)) hb); clear HI126; clear HB; have HI126 := n0_; have HB := n1_; clear n0_ n1_; (try clear hb); (try clear hb2); (try clear hk); (try clear hi)) | (go_at_call 20; (with_reducible refine (cursor_Put32.calls kj1 (-1) t146 _ A22.out).mono ?_); rintro e w34 ⟨rfl, hb⟩; have n0_ := Aside0.mk (IsS59.below (by repeat (first | (with_reducible first | exact HI126.out | apply IsS59.alloc | apply IsS59.drewN | apply IsS59.drew | apply IsS59.set_0 | apply IsS59.set_1 | apply IsS59.set_2) | exact HI126.out)) hb); have n1_ := Aside0.mk (below_step (by repeat (first | (with_reducible first | exact HB.out | apply below_alloc | apply pw_below_drewN | apply below_drew1 | refine below_set ?_ (IsS59.ge HI126.out)) | exact HB.out)) hb); clear HI126; clear HB; have HI126 := n0_; have HB := n1_; clear n0_ n1_; (try clear hb); (try clear hb2); (try clear hk); (try clear hi)) | (go_at_call 10; (with_reducible refine (cursor_Rune.calls kj1 (⟨#[226, 130, 172]⟩ : ByteArray) 0 t147 _ A24.out).mono ?_); rintro e w' ⟨rfl, ⟨nd, rfl⟩⟩) | (go_at_call 13; (with_reducible refine (cursor_Runes.calls kj1 (⟨#[128]⟩ : ByteArray) t148 _ A26.out).mono ?_); rintro e w' ⟨rfl, ⟨nd, rfl⟩⟩))
                      go_ret
                      exact ⟨by first | rfl | (simp [errW_none, errW_some] <;> rfl) | (simp [*, errW_none, errW_some] <;> rfl), by repeat (first | (with_reducible first | exact HB.out | apply below_alloc | apply pw_below_drewN | apply below_drew1 | refine below_set ?_ (IsS59.ge HI126.out)) | exact HB.out)⟩
                  · rw [if_neg c25] at H
                    have c25b0 : (t147 == 3) = false := beq_eq_false_iff_ne.mpr c25
                    have c25b1 : (t147 != 3) = true := bne_iff_ne.mpr c25
                    obtain rfl := Option.some.inj H
                    go_wp2_with (first | ((with_reducible refine gate_callee (f := 23) rfl ?_); refine goesL_ (some 26) rfl rfl Try.func23 (by kernel_rfl) rfl #[.pointer (some ⟨g126, 0, none⟩)] rfl (by (try simp only [List.map_toArray, List.map_cons, List.map_nil]); first | done | rfl | (simp only [List.length_drop, List.length_take]; rfl)) ?_; (with_reducible refine (cursor_Cursor_Fault.calls g126 x127000_1 x127001_1 x127002_1 t139 t140 t141 t142 t143 w _ ?side1 ?side2 A16.out).mono ?_); (case side1 => repeat (first | (with_reducible first | exact HI126.out | apply IsS59.alloc | apply IsS59.drewN | apply IsS59.drew | apply IsS59.set_0 | apply IsS59.set_1 | apply IsS59.set_2) | exact HI126.out)); (case side2 => repeat (first | (with_reducible first | exact HB.out | apply below_alloc | apply pw_below_drewN | apply below_drew1 | refine below_set ?_ (IsS59.ge HI126.out)) | exact HB.out)); rintro e w35 ⟨rfl, hi, hb, hk⟩; refine ⟨_, rfl, ?_⟩; have n0_ := Aside0.mk (hb); have n1_ := Aside0.mk (hi); clear HB; clear HI126; have HB := n0_; have HI126 := n1_; clear n0_ n1_; (try clear hb); (try clear hb2); (try clear hk); (try clear hi)) | ((with_reducible refine gate_callee (f := 15) rfl ?_); refine goesL_ (some 30) rfl rfl Try.func15 (by kernel_rfl) rfl #[.string (⟨#[97, 98]⟩ : ByteArray)] rfl (by (try simp only [List.map_toArray, List.map_cons, List.map_nil]); first | done | rfl | (simp only [List.length_drop, List.length_take]; rfl)) ?_; (with_reducible refine (cursor_PutText.calls kj1 (⟨#[97, 98]⟩ : ByteArray) t144 t145 _ A17.out).mono ?_); rintro e w36 ⟨rfl, hb⟩; refine ⟨_, rfl, ?_⟩; have n0_ := Aside0.mk (IsS59.below (by repeat (first | (with_reducible first | exact HI126.out | apply IsS59.alloc | apply IsS59.drewN | apply IsS59.drew | apply IsS59.set_0 | apply IsS59.set_1 | apply IsS59.set_2) | exact HI126.out)) hb); have n1_ := Aside0.mk (below_step (by repeat (first | (with_reducible first | exact HB.out | apply below_alloc | apply pw_below_drewN | apply below_drew1 | refine below_set ?_ (IsS59.ge HI126.out)) | exact HB.out)) hb); clear HI126; clear HB; have HI126 := n0_; have HB := n1_; clear n0_ n1_; (try clear hb); (try clear hb2); (try clear hk); (try clear hi)) | (go_at_call 20; (with_reducible refine (cursor_Put32.calls kj1 (-1) t146 _ A22.out).mono ?_); rintro e w37 ⟨rfl, hb⟩; have n0_ := Aside0.mk (IsS59.below (by repeat (first | (with_reducible first | exact HI126.out | apply IsS59.alloc | apply IsS59.drewN | apply IsS59.drew | apply IsS59.set_0 | apply IsS59.set_1 | apply IsS59.set_2) | exact HI126.out)) hb); have n1_ := Aside0.mk (below_step (by repeat (first | (with_reducible first | exact HB.out | apply below_alloc | apply pw_below_drewN | apply below_drew1 | refine below_set ?_ (IsS59.ge HI126.out)) | exact HB.out)) hb); clear HI126; clear HB; have HI126 := n0_; have HB := n1_; clear n0_ n1_; (try clear hb); (try clear hb2); (try clear hk); (try clear hi)) | (go_at_call 10; (with_reducible refine (cursor_Rune.calls kj1 (⟨#[226, 130, 172]⟩ : ByteArray) 0 t147 _ A24.out).mono ?_); rintro e w' ⟨rfl, ⟨nd, rfl⟩⟩))
                    go_ret
                    exact ⟨by first | rfl | (simp [errW_none, errW_some] <;> rfl) | (simp [*, errW_none, errW_some] <;> rfl), by repeat (first | (with_reducible first | exact HB.out | apply below_alloc | apply pw_below_drewN | apply below_drew1 | refine below_set ?_ (IsS59.ge HI126.out)) | exact HB.out)⟩
                · rw [if_neg c23] at H
                  have c23b0 : (t146.toList == ([255, 255, 255, 255] : List UInt8)) = false := beq_eq_false_iff_ne.mpr c23
                  have c23b1 : (t146.toList != ([255, 255, 255, 255] : List UInt8)) = true := bne_iff_ne.mpr c23
                  obtain rfl := Option.some.inj H
                  go_wp2_with (first | ((with_reducible refine gate_callee (f := 23) rfl ?_); refine goesL_ (some 26) rfl rfl Try.func23 (by kernel_rfl) rfl #[.pointer (some ⟨g126, 0, none⟩)] rfl (by (try simp only [List.map_toArray, List.map_cons, List.map_nil]); first | done | rfl | (simp only [List.length_drop, List.length_take]; rfl)) ?_; (with_reducible refine (cursor_Cursor_Fault.calls g126 x127000_1 x127001_1 x127002_1 t139 t140 t141 t142 t143 w _ ?side1 ?side2 A16.out).mono ?_); (case side1 => repeat (first | (with_reducible first | exact HI126.out | apply IsS59.alloc | apply IsS59.drewN | apply IsS59.drew | apply IsS59.set_0 | apply IsS59.set_1 | apply IsS59.set_2) | exact HI126.out)); (case side2 => repeat (first | (with_reducible first | exact HB.out | apply below_alloc | apply pw_below_drewN | apply below_drew1 | refine below_set ?_ (IsS59.ge HI126.out)) | exact HB.out)); rintro e w38 ⟨rfl, hi, hb, hk⟩; refine ⟨_, rfl, ?_⟩; have n0_ := Aside0.mk (hb); have n1_ := Aside0.mk (hi); clear HB; clear HI126; have HB := n0_; have HI126 := n1_; clear n0_ n1_; (try clear hb); (try clear hb2); (try clear hk); (try clear hi)) | ((with_reducible refine gate_callee (f := 15) rfl ?_); refine goesL_ (some 30) rfl rfl Try.func15 (by kernel_rfl) rfl #[.string (⟨#[97, 98]⟩ : ByteArray)] rfl (by (try simp only [List.map_toArray, List.map_cons, List.map_nil]); first | done | rfl | (simp only [List.length_drop, List.length_take]; rfl)) ?_; (with_reducible refine (cursor_PutText.calls kj1 (⟨#[97, 98]⟩ : ByteArray) t144 t145 _ A17.out).mono ?_); rintro e w39 ⟨rfl, hb⟩; refine ⟨_, rfl, ?_⟩; have n0_ := Aside0.mk (IsS59.below (by repeat (first | (with_reducible first | exact HI126.out | apply IsS59.alloc | apply IsS59.drewN | apply IsS59.drew | apply IsS59.set_0 | apply IsS59.set_1 | apply IsS59.set_2) | exact HI126.out)) hb); have n1_ := Aside0.mk (below_step (by repeat (first | (with_reducible first | exact HB.out | apply below_alloc | apply pw_below_drewN | apply below_drew1 | refine below_set ?_ (IsS59.ge HI126.out)) | exact HB.out)) hb); clear HI126; clear HB; have HI126 := n0_; have HB := n1_; clear n0_ n1_; (try clear hb); (try clear hb2); (try clear hk); (try clear hi)) | (go_at_call 20; (with_reducible refine (cursor_Put32.calls kj1 (-1) t146 _ A22.out).mono ?_); rintro e w40 ⟨rfl, hb⟩; have n0_ := Aside0.mk (IsS59.below (by repeat (first | (with_reducible first | exact HI126.out | apply IsS59.alloc | apply IsS59.drewN | apply IsS59.drew | apply IsS59.set_0 | apply IsS59.set_1 | apply IsS59.set_2) | exact HI126.out)) hb); have n1_ := Aside0.mk (below_step (by repeat (first | (with_reducible first | exact HB.out | apply below_alloc | apply pw_below_drewN | apply below_drew1 | refine below_set ?_ (IsS59.ge HI126.out)) | exact HB.out)) hb); clear HI126; clear HB; have HI126 := n0_; have HB := n1_; clear n0_ n1_; (try clear hb); (try clear hb2); (try clear hk); (try clear hi)))
                  go_ret
                  exact ⟨by first | rfl | (simp [errW_none, errW_some] <;> rfl) | (simp [*, errW_none, errW_some] <;> rfl), by repeat (first | (with_reducible first | exact HB.out | apply below_alloc | apply pw_below_drewN | apply below_drew1 | refine below_set ?_ (IsS59.ge HI126.out)) | exact HB.out)⟩
              · rw [if_neg c21] at H
                have c21b0 : (t145 == 0) = false := beq_eq_false_iff_ne.mpr c21
                have c21b1 : (t145 != 0) = true := bne_iff_ne.mpr c21
                obtain rfl := Option.some.inj H
                go_wp2_with (first | ((with_reducible refine gate_callee (f := 23) rfl ?_); refine goesL_ (some 26) rfl rfl Try.func23 (by kernel_rfl) rfl #[.pointer (some ⟨g126, 0, none⟩)] rfl (by (try simp only [List.map_toArray, List.map_cons, List.map_nil]); first | done | rfl | (simp only [List.length_drop, List.length_take]; rfl)) ?_; (with_reducible refine (cursor_Cursor_Fault.calls g126 x127000_1 x127001_1 x127002_1 t139 t140 t141 t142 t143 w _ ?side1 ?side2 A16.out).mono ?_); (case side1 => repeat (first | (with_reducible first | exact HI126.out | apply IsS59.alloc | apply IsS59.drewN | apply IsS59.drew | apply IsS59.set_0 | apply IsS59.set_1 | apply IsS59.set_2) | exact HI126.out)); (case side2 => repeat (first | (with_reducible first | exact HB.out | apply below_alloc | apply pw_below_drewN | apply below_drew1 | refine below_set ?_ (IsS59.ge HI126.out)) | exact HB.out)); rintro e w41 ⟨rfl, hi, hb, hk⟩; refine ⟨_, rfl, ?_⟩; have n0_ := Aside0.mk (hb); have n1_ := Aside0.mk (hi); clear HB; clear HI126; have HB := n0_; have HI126 := n1_; clear n0_ n1_; (try clear hb); (try clear hb2); (try clear hk); (try clear hi)) | ((with_reducible refine gate_callee (f := 15) rfl ?_); refine goesL_ (some 30) rfl rfl Try.func15 (by kernel_rfl) rfl #[.string (⟨#[97, 98]⟩ : ByteArray)] rfl (by (try simp only [List.map_toArray, List.map_cons, List.map_nil]); first | done | rfl | (simp only [List.length_drop, List.length_take]; rfl)) ?_; (with_reducible refine (cursor_PutText.calls kj1 (⟨#[97, 98]⟩ : ByteArray) t144 t145 _ A17.out).mono ?_); rintro e w42 ⟨rfl, hb⟩; refine ⟨_, rfl, ?_⟩; have n0_ := Aside0.mk (IsS59.below (by repeat (first | (with_reducible first | exact HI126.out | apply IsS59.alloc | apply IsS59.drewN | apply IsS59.drew | apply IsS59.set_0 | apply IsS59.set_1 | apply IsS59.set_2) | exact HI126.out)) hb); have n1_ := Aside0.mk (below_step (by repeat (first | (with_reducible first | exact HB.out | apply below_alloc | apply pw_below_drewN | apply below_drew1 | refine below_set ?_ (IsS59.ge HI126.out)) | exact HB.out)) hb); clear HI126; clear HB; have HI126 := n0_; have HB := n1_; clear n0_ n1_; (try clear hb); (try clear hb2); (try clear hk); (try clear hi)))
                go_ret
                exact ⟨by first | rfl | (simp [errW_none, errW_some] <;> rfl) | (simp [*, errW_none, errW_some] <;> rfl), by repeat (first | (with_reducible first | exact HB.out | apply below_alloc | apply pw_below_drewN | apply below_drew1 | refine below_set ?_ (IsS59.ge HI126.out)) | exact HB.out)⟩
            · rw [if_neg c20] at H
              have c20b0 : (t144.toList == ([0, 2, 97, 98] : List UInt8)) = false := beq_eq_false_iff_ne.mpr c20
              have c20b1 : (t144.toList != ([0, 2, 97, 98] : List UInt8)) = true := bne_iff_ne.mpr c20
              obtain rfl := Option.some.inj H
              go_wp2_with (first | ((with_reducible refine gate_callee (f := 23) rfl ?_); refine goesL_ (some 26) rfl rfl Try.func23 (by kernel_rfl) rfl #[.pointer (some ⟨g126, 0, none⟩)] rfl (by (try simp only [List.map_toArray, List.map_cons, List.map_nil]); first | done | rfl | (simp only [List.length_drop, List.length_take]; rfl)) ?_; (with_reducible refine (cursor_Cursor_Fault.calls g126 x127000_1 x127001_1 x127002_1 t139 t140 t141 t142 t143 w _ ?side1 ?side2 A16.out).mono ?_); (case side1 => repeat (first | (with_reducible first | exact HI126.out | apply IsS59.alloc | apply IsS59.drewN | apply IsS59.drew | apply IsS59.set_0 | apply IsS59.set_1 | apply IsS59.set_2) | exact HI126.out)); (case side2 => repeat (first | (with_reducible first | exact HB.out | apply below_alloc | apply pw_below_drewN | apply below_drew1 | refine below_set ?_ (IsS59.ge HI126.out)) | exact HB.out)); rintro e w43 ⟨rfl, hi, hb, hk⟩; refine ⟨_, rfl, ?_⟩; have n0_ := Aside0.mk (hb); have n1_ := Aside0.mk (hi); clear HB; clear HI126; have HB := n0_; have HI126 := n1_; clear n0_ n1_; (try clear hb); (try clear hb2); (try clear hk); (try clear hi)) | ((with_reducible refine gate_callee (f := 15) rfl ?_); refine goesL_ (some 30) rfl rfl Try.func15 (by kernel_rfl) rfl #[.string (⟨#[97, 98]⟩ : ByteArray)] rfl (by (try simp only [List.map_toArray, List.map_cons, List.map_nil]); first | done | rfl | (simp only [List.length_drop, List.length_take]; rfl)) ?_; (with_reducible refine (cursor_PutText.calls kj1 (⟨#[97, 98]⟩ : ByteArray) t144 t145 _ A17.out).mono ?_); rintro e w44 ⟨rfl, hb⟩; refine ⟨_, rfl, ?_⟩; have n0_ := Aside0.mk (IsS59.below (by repeat (first | (with_reducible first | exact HI126.out | apply IsS59.alloc | apply IsS59.drewN | apply IsS59.drew | apply IsS59.set_0 | apply IsS59.set_1 | apply IsS59.set_2) | exact HI126.out)) hb); have n1_ := Aside0.mk (below_step (by repeat (first | (with_reducible first | exact HB.out | apply below_alloc | apply pw_below_drewN | apply below_drew1 | refine below_set ?_ (IsS59.ge HI126.out)) | exact HB.out)) hb); clear HI126; clear HB; have HI126 := n0_; have HB := n1_; clear n0_ n1_; (try clear hb); (try clear hb2); (try clear hk); (try clear hi)))
              go_ret
              exact ⟨by first | rfl | (simp [errW_none, errW_some] <;> rfl) | (simp [*, errW_none, errW_some] <;> rfl), by repeat (first | (with_reducible first | exact HB.out | apply below_alloc | apply pw_below_drewN | apply below_drew1 | refine below_set ?_ (IsS59.ge HI126.out)) | exact HB.out)⟩
          · rw [if_neg c19] at H
            have c19b0 : (t140 == 2) = false := beq_eq_false_iff_ne.mpr c19
            have c19b1 : (t140 != 2) = true := bne_iff_ne.mpr c19
            obtain rfl := Option.some.inj H
            go_wp2_with (first | ((with_reducible refine gate_callee (f := 23) rfl ?_); refine goesL_ (some 26) rfl rfl Try.func23 (by kernel_rfl) rfl #[.pointer (some ⟨g126, 0, none⟩)] rfl (by (try simp only [List.map_toArray, List.map_cons, List.map_nil]); first | done | rfl | (simp only [List.length_drop, List.length_take]; rfl)) ?_; (with_reducible refine (cursor_Cursor_Fault.calls g126 x127000_1 x127001_1 x127002_1 t139 t140 t141 t142 t143 w _ ?side1 ?side2 A16.out).mono ?_); (case side1 => repeat (first | (with_reducible first | exact HI126.out | apply IsS59.alloc | apply IsS59.drewN | apply IsS59.drew | apply IsS59.set_0 | apply IsS59.set_1 | apply IsS59.set_2) | exact HI126.out)); (case side2 => repeat (first | (with_reducible first | exact HB.out | apply below_alloc | apply pw_below_drewN | apply below_drew1 | refine below_set ?_ (IsS59.ge HI126.out)) | exact HB.out)); rintro e w45 ⟨rfl, hi, hb, hk⟩; refine ⟨_, rfl, ?_⟩; have n0_ := Aside0.mk (hb); have n1_ := Aside0.mk (hi); clear HB; clear HI126; have HB := n0_; have HI126 := n1_; clear n0_ n1_; (try clear hb); (try clear hb2); (try clear hk); (try clear hi)) | ((with_reducible refine gate_callee (f := 15) rfl ?_); refine goesL_ (some 30) rfl rfl Try.func15 (by kernel_rfl) rfl #[.string (⟨#[97, 98]⟩ : ByteArray)] rfl (by (try simp only [List.map_toArray, List.map_cons, List.map_nil]); first | done | rfl | (simp only [List.length_drop, List.length_take]; rfl)) ?_; (with_reducible refine (cursor_PutText.calls kj1 (⟨#[97, 98]⟩ : ByteArray) t144 t145 _ A17.out).mono ?_); rintro e w46 ⟨rfl, hb⟩; refine ⟨_, rfl, ?_⟩; have n0_ := Aside0.mk (IsS59.below (by repeat (first | (with_reducible first | exact HI126.out | apply IsS59.alloc | apply IsS59.drewN | apply IsS59.drew | apply IsS59.set_0 | apply IsS59.set_1 | apply IsS59.set_2) | exact HI126.out)) hb); have n1_ := Aside0.mk (below_step (by repeat (first | (with_reducible first | exact HB.out | apply below_alloc | apply pw_below_drewN | apply below_drew1 | refine below_set ?_ (IsS59.ge HI126.out)) | exact HB.out)) hb); clear HI126; clear HB; have HI126 := n0_; have HB := n1_; clear n0_ n1_; (try clear hb); (try clear hb2); (try clear hk); (try clear hi)))
            go_ret
            exact ⟨by first | rfl | (simp [errW_none, errW_some] <;> rfl) | (simp [*, errW_none, errW_some] <;> rfl), by repeat (first | (with_reducible first | exact HB.out | apply below_alloc | apply pw_below_drewN | apply below_drew1 | refine below_set ?_ (IsS59.ge HI126.out)) | exact HB.out)⟩
        · rw [if_neg c18] at H
          have c18b0 : (t139 == 110) = false := beq_eq_false_iff_ne.mpr c18
          have c18b1 : (t139 != 110) = true := bne_iff_ne.mpr c18
          obtain rfl := Option.some.inj H
          go_wp2_with (first | ((with_reducible refine gate_callee (f := 23) rfl ?_); refine goesL_ (some 26) rfl rfl Try.func23 (by kernel_rfl) rfl #[.pointer (some ⟨g126, 0, none⟩)] rfl (by (try simp only [List.map_toArray, List.map_cons, List.map_nil]); first | done | rfl | (simp only [List.length_drop, List.length_take]; rfl)) ?_; (with_reducible refine (cursor_Cursor_Fault.calls g126 x127000_1 x127001_1 x127002_1 t139 t140 t141 t142 t143 w _ ?side1 ?side2 A16.out).mono ?_); (case side1 => repeat (first | (with_reducible first | exact HI126.out | apply IsS59.alloc | apply IsS59.drewN | apply IsS59.drew | apply IsS59.set_0 | apply IsS59.set_1 | apply IsS59.set_2) | exact HI126.out)); (case side2 => repeat (first | (with_reducible first | exact HB.out | apply below_alloc | apply pw_below_drewN | apply below_drew1 | refine below_set ?_ (IsS59.ge HI126.out)) | exact HB.out)); rintro e w47 ⟨rfl, hi, hb, hk⟩; refine ⟨_, rfl, ?_⟩; have n0_ := Aside0.mk (hb); have n1_ := Aside0.mk (hi); clear HB; clear HI126; have HB := n0_; have HI126 := n1_; clear n0_ n1_; (try clear hb); (try clear hb2); (try clear hk); (try clear hi)) | ((with_reducible refine gate_callee (f := 15) rfl ?_); refine goesL_ (some 30) rfl rfl Try.func15 (by kernel_rfl) rfl #[.string (⟨#[97, 98]⟩ : ByteArray)] rfl (by (try simp only [List.map_toArray, List.map_cons, List.map_nil]); first | done | rfl | (simp only [List.length_drop, List.length_take]; rfl)) ?_; (with_reducible refine (cursor_PutText.calls kj1 (⟨#[97, 98]⟩ : ByteArray) t144 t145 _ A17.out).mono ?_); rintro e w48 ⟨rfl, hb⟩; refine ⟨_, rfl, ?_⟩; have n0_ := Aside0.mk (IsS59.below (by repeat (first | (with_reducible first | exact HI126.out | apply IsS59.alloc | apply IsS59.drewN | apply IsS59.drew | apply IsS59.set_0 | apply IsS59.set_1 | apply IsS59.set_2) | exact HI126.out)) hb); have n1_ := Aside0.mk (below_step (by repeat (first | (with_reducible first | exact HB.out | apply below_alloc | apply pw_below_drewN | apply below_drew1 | refine below_set ?_ (IsS59.ge HI126.out)) | exact HB.out)) hb); clear HI126; clear HB; have HI126 := n0_; have HB := n1_; clear n0_ n1_; (try clear hb); (try clear hb2); (try clear hk); (try clear hi)))
          go_ret
          exact ⟨by first | rfl | (simp [errW_none, errW_some] <;> rfl) | (simp [*, errW_none, errW_some] <;> rfl), by repeat (first | (with_reducible first | exact HB.out | apply below_alloc | apply pw_below_drewN | apply below_drew1 | refine below_set ?_ (IsS59.ge HI126.out)) | exact HB.out)⟩

end Go.Proofs.Ytfhlnmgaammofaa.Q
