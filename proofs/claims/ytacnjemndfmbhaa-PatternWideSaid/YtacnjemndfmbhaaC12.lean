import Derived.Test.YtacnjemndfmbhaaC8
import Derived.Test.YtacnjemndfmbhaaC11
namespace Go.Proofs.Ytacnjemndfmbhaa
open Go.RowKit
theorem aP52 {p : Prop} (h : p := by unfold leastS at hn; rw [if_pos hpr] at hn; unfold mx at hn; (repeat' split at hn) <;> omega) : p := h
theorem aP51 {p : Prop} (h : p := by unfold leastS mx at hn; (repeat' split at hn) <;> omega) : p := h
end Go.Proofs.Ytacnjemndfmbhaa
section
namespace Go.Proofs.Ytacnjemndfmbhaa.Q
open Go.RowKit Go.Proofs.Ytacnjemndfmbhaa.A Go.Proofs.YtacnjemndfmbhaaW.PrintWords Go.Proofs.YtacnjemndfmbhaaW.PrintLast Go.Proofs.YtacnjemndfmbhaaW.PrintMore
set_option linter.unusedVariables false
set_option linter.unusedSimpArgs false
def zeroPt : Pt := ⟨zeroSb2, false, zeroSb2⟩
def Lz : Sl := ⟨none, 0, none, 0⟩
noncomputable def scanA (s : ByteArray) (p : Int) : Option (Int × Sb) := (runS s (stepsFrom 0) ⟨p, zeroSb2, 0⟩).map (fun y => (y.p, widthS y))
noncomputable def finP (s : ByteArray) (q : Int) (x : Pt) : Pt × Int := if q < (s.size : Int) then (zeroPt, 140) else if checkP x = 0 then (x, 0) else (zeroPt, checkP x)
noncomputable def parseP (s : ByteArray) : Pt × Int :=
  if 128 < s.size then (zeroPt, 142) else
  match scanA s 0 with
  | none => (zeroPt, 140)
  | some x => if bAt s x.1 59 = true then (match scanA s (x.1 + 1) with
    | none => (zeroPt, 140)
    | some y => finP s y.1 ⟨x.2, true, y.2⟩) else finP s x.1 ⟨x.2, false, zeroSb2⟩
structure OwnP (w : World) (base : Nat) (L M : Sl) (x : Pt) : Prop where
  pp : RowIn w base (fun _ => True) L.A x.pos.p
  ps : RowIn w base (fun _ => True) L.B x.pos.s
  np : RowIn w base (fun _ => True) M.A x.neg.p
  ns : RowIn w base (fun _ => True) M.B x.neg.s
  c1 : x.pos.p.length ≤ L.c
  c2 : x.pos.s.length ≤ L.d
  c3 : x.neg.p.length ≤ M.c
  c4 : x.neg.s.length ≤ M.d
theorem OwnP.zero (w : World) (base : Nat) : OwnP w base Lz Lz zeroPt := ⟨RowIn.nil _ _ _, RowIn.nil _ _ _, RowIn.nil _ _ _, RowIn.nil _ _ _, Nat.le_refl _, Nat.le_refl _, Nat.le_refl _, Nat.le_refl _⟩
def DoneQ (w0 : World) (r : Pt × Int) (e : Ending) (w' : World) : Prop := ∃ L M, e = .returned (.tuple #[patV L M r.1, .int .i64 r.2]) ∧ OwnP w' w0.heap.size L M r.1 ∧ Below w0.heap.size w0 w'
theorem doneQ_zero {w0 w : World} {r : Pt × Int} {c : Int} (hr : r = (zeroPt, c)) (hb : Below w0.heap.size w0 w) : DoneQ w0 r (.returned (.tuple #[patV Lz Lz zeroPt, .int .i64 c])) w := by
  subst hr
  exact ⟨Lz, Lz, rfl, OwnP.zero _ _, hb⟩
theorem below_setRow {w W : World} {g : Nat} {cs : Array Value} (h : Below w.heap.size w W) (hg : w.heap.size ≤ g) : Below w.heap.size w (W.setRow g cs) :=
  h.trans ⟨rfl, rfl, rfl, by simp, fun k hk => setRow_other _ _ _ _ (by omega)⟩
theorem results15 : Try.f15.results = #[.cell 2 26, .tmp 3] := by kernel_rfl
theorem fill_pad {s : ByteArray} {p : Int} {h : Sb} {k : Int} {x : Int × Sb} (hs : s.size ≤ 128) (hp : h.pad.size ≤ 128) (hx : fillF s p h k = some x) : x.2.pad.size ≤ 128 := by
  unfold fillF at hx
  split at hx
  · split at hx
    · exact absurd hx (by simp)
    · obtain rfl := Option.some.inj hx
      show (s.extract _ _).size ≤ 128
      rw [ByteArray.size_extract]
      omega
  · obtain rfl := Option.some.inj hx
    exact hp
theorem fillIf_pad {l : List S53} {s : ByteArray} {p : Int} {h : Sb} {k : Int} {x : Int × Sb} (hs : s.size ≤ 128) (hp : h.pad.size ≤ 128) (hx : fillIf l s p h k = some x) : x.2.pad.size ≤ 128 := by
  unfold fillIf at hx
  split at hx
  · obtain rfl := Option.some.inj hx
    exact hp
  · exact fill_pad hs hp hx
theorem group_pad {G : List Int} {z : Int} {h y : Sb} (hy : groupF G z h = some y) : y.pad = h.pad := by
  unfold groupF at hy
  split at hy
  · exact absurd hy (by simp)
  · obtain rfl := Option.some.inj hy
    rfl
theorem step_pad {s : ByteArray} (hs : s.size ≤ 128) : ∀ (i : Nat) {y y' : St}, y.h.pad.size ≤ 128 → stepS s i y = some y' → y'.h.pad.size ≤ 128 := by
  intro i y y' hp he
  have hc : i = 0 ∨ i = 1 ∨ i = 2 ∨ i = 3 ∨ i = 4 ∨ i = 5 ∨ i = 6 ∨ ∃ j, i = j + 7 := by
    rcases Nat.lt_or_ge i 7 with h | h
    · omega
    · exact .inr (.inr (.inr (.inr (.inr (.inr (.inr ⟨i - 7, by omega⟩))))))
  rcases hc with rfl | rfl | rfl | rfl | rfl | rfl | rfl | ⟨j, rfl⟩
  · obtain ⟨x, hx, rfl⟩ := Option.map_eq_some_iff.mp (show (fillF s y.p y.h 0).map _ = _ from he)
    exact fill_pad hs hp hx
  · have he' : (if (tokT s stops1 y.p).2 = 0 then some (⟨stopN s stops1 y.p, {y.h with p := (tokT s stops1 y.p).1}, y.n⟩ : St) else none) = some y' := he
    split at he'
    · obtain rfl := Option.some.inj he'
      exact hp
    · exact absurd he' (by simp)
  · obtain ⟨x, hx, rfl⟩ := Option.map_eq_some_iff.mp (show (fillIf y.h.p s y.p y.h 1).map _ = _ from he)
    exact fillIf_pad hs hp hx
  · obtain ⟨x, hx, rfl⟩ := Option.map_eq_some_iff.mp (show (placesF s y.p y.h).map _ = _ from he)
    unfold placesF at hx
    obtain ⟨u, hu, hx⟩ := Option.bind_eq_some_iff.mp hx
    obtain ⟨v, hv, rfl⟩ := Option.map_eq_some_iff.mp hx
    show v.pad.size ≤ 128
    rw [group_pad hv]
    exact hp
  · obtain ⟨x, hx, rfl⟩ := Option.map_eq_some_iff.mp (show (tailF s y.p y.h).map _ = _ from he)
    unfold tailF at hx
    obtain ⟨u, hu, rfl⟩ := Option.map_eq_some_iff.mp hx
    have h1 : u.2.pad = y.h.pad := by
      unfold fracF at hu
      split at hu
      · split at hu
        · exact absurd hu (by simp)
        · obtain rfl := Option.some.inj hu; rfl
      · obtain rfl := Option.some.inj hu; rfl
    show (expF s u.1 u.2).2.pad.size ≤ 128
    unfold expF
    split
    · show u.2.pad.size ≤ 128; rw [h1]; exact hp
    · show u.2.pad.size ≤ 128; rw [h1]; exact hp
  · obtain ⟨x, hx, rfl⟩ := Option.map_eq_some_iff.mp (show (fillF s y.p y.h 2).map _ = _ from he)
    exact fill_pad hs hp hx
  · have he' : (if (tokT s stops2 y.p).2 = 0 then some (⟨stopN s stops2 y.p, {y.h with s := (tokT s stops2 y.p).1}, y.n⟩ : St) else none) = some y' := he
    split at he'
    · obtain rfl := Option.some.inj he'
      exact hp
    · exact absurd he' (by simp)
  · obtain ⟨x, hx, rfl⟩ := Option.map_eq_some_iff.mp (show (fillIf y.h.s s y.p y.h 3).map _ = _ from he)
    exact fillIf_pad hs hp hx
theorem run_pad {s : ByteArray} (hs : s.size ≤ 128) : ∀ (l : List Nat) (y y' : St), y.h.pad.size ≤ 128 → runS s l y = some y' → y'.h.pad.size ≤ 128
  | [], y, y', hp, h => by obtain rfl := Option.some.inj h; exact hp
  | i :: r, y, y', hp, h => by
    obtain ⟨u, hu, h⟩ := Option.bind_eq_some_iff.mp (show (stepS s i y).bind (runS s r) = some y' from h)
    exact run_pad hs r u y' (step_pad hs i hp hu) h
theorem width_same (y : St) : (widthS y).p = y.h.p ∧ (widthS y).s = y.h.s ∧ (widthS y).pad = y.h.pad := by
  unfold widthS
  split <;> exact ⟨rfl, rfl, rfl⟩
theorem run_n (s : ByteArray) (p : Int) (h : Sb) (n : Int) : runS s (stepsFrom 0) ⟨p, h, n⟩ = runS s (stepsFrom 0) ⟨p, h, 0⟩ := by
  show (stepS s 0 ⟨p, h, n⟩).bind (runS s [1, 2, 3, 4, 5, 6, 7]) = (stepS s 0 ⟨p, h, 0⟩).bind (runS s [1, 2, 3, 4, 5, 6, 7])
  show ((fillF s p h 0).map fun x => (⟨x.1, x.2, n⟩ : St)).bind _ = ((fillF s p h 0).map fun x => (⟨x.1, x.2, 0⟩ : St)).bind _
  cases fillF s p h 0 with
  | none => rfl
  | some x =>
    show (if (tokT s stops1 x.1).2 = 0 then some (⟨stopN s stops1 x.1, {x.2 with p := (tokT s stops1 x.1).1}, n⟩ : St) else none).bind (runS s [2, 3, 4, 5, 6, 7]) = (if (tokT s stops1 x.1).2 = 0 then some (⟨stopN s stops1 x.1, {x.2 with p := (tokT s stops1 x.1).1}, 0⟩ : St) else none).bind (runS s [2, 3, 4, 5, 6, 7])
    split
    · generalize stopN s stops1 x.1 = q
      generalize ({x.2 with p := (tokT s stops1 x.1).1} : Sb) = g
      show ((fillIf g.p s q g 1).map fun x => (⟨x.1, x.2, n⟩ : St)).bind (runS s [3, 4, 5, 6, 7]) = ((fillIf g.p s q g 1).map fun x => (⟨x.1, x.2, 0⟩ : St)).bind (runS s [3, 4, 5, 6, 7])
      cases fillIf g.p s q g 1 with
      | none => rfl
      | some z => rfl
    · rfl
theorem CW.start {w1 w2 : World} {s : ByteArray} (hb : Below w1.heap.size w1 w2) (hk : w2.heap[w1.heap.size]? = some (.cells (scC Lz s 0 zeroSb2 0) 48 (0, 0))) : CW w1 w2 w1.heap.size ⟨0, w1⟩ Lz s 0 zeroSb2 0 :=
  ⟨Nat.le_refl _, hk, RowIn.nil _ _ _, RowIn.nil _ _ _, hb, Nat.zero_le _, Nat.le_refl _, Nat.le_refl _, hb.size, fun k h1 h2 => hb.block k h1⟩
theorem row_moved {w w1 : World} {base : Nat} {ok : Nat → Prop} {A : Option Addr} {xs : List S53} (h : RowIn w base ok A xs) (hm : ∀ (k : Nat) (cs : Array Value), w.heap[k]? = some (.cells cs 53 (0, 0)) → w1.heap[k]? = w.heap[k]?) : RowIn w1 base ok A xs := by
  obtain ⟨c, h⟩ := h
  refine ⟨c, Kd.R_mono (Kd.R_move (Kd.R_bound h) (fun k hk => ?_)) (fun k hk => hk.1)⟩
  obtain ⟨_, _, _, q, hq, cells, hc⟩ := hk
  have : q = 53 := aP40
  subst this
  exact hm k cells hc
theorem CW.other {w0 w : World} {g : Nat} {m : Mk} {L : Sl} {s : ByteArray} {p : Int} {h : Sb} {n : Int} (hh : CW w0 w g m L s p h n) {k : Nat} {cur cs : Array Value} (hk : w.heap[k]? = some (.cells cur 26 (0, 0))) (h1 : w0.heap.size ≤ k) (h2 : m.R.heap.size ≤ k) : CW w0 (w.setRow k cs) g m L s p h n := by
  have hne : g ≠ k := blk_ne hh.blk hk (by decide)
  refine ⟨hh.ge, (setRow_other _ _ _ _ hne).trans hh.blk, row_moved hh.rp (fun j cj hj => setRow_other _ _ _ _ (blk_ne hj hk (by decide))), row_moved hh.rs (fun j cj hj => setRow_other _ _ _ _ (blk_ne hj hk (by decide))), below_setRow hh.below h1, by simpa using hh.mw, hh.pc, hh.sc, by simpa using hh.rz, fun j hj1 hj2 => (setRow_other _ _ _ _ (by omega)).trans (hh.kept j hj1 hj2)⟩
theorem CW.reset {w0 w : World} {g : Nat} {m : Mk} {L : Sl} {s : ByteArray} {p : Int} {h : Sb} {n : Int} (hh : CW w0 w g m L s p h n) {cs : Array Value} (hcs : cs = scC Lz s p zeroSb2 n) : CW w0 (w.setRow g cs) g m Lz s p zeroSb2 n := by
  subst hcs
  exact ⟨hh.ge, setRow_heap _ _ _ _ _ _ hh.blk, RowIn.nil _ _ _, RowIn.nil _ _ _, below_setRow hh.below hh.ge, by simpa using hh.mw, Nat.le_refl _, Nat.le_refl _, by simpa using hh.rz, fun j hj1 hj2 => (setRow_other _ _ _ _ hj2).trans (hh.kept j hj1 hj2)⟩
theorem wpList_store_mid {P : Program} {ops : Array Oper} {rest : List Oper} {o : Oper} {a : Act} {w : World} {Q : Exit → Act → World → Prop} (hgd : o.guard = none) (ty : TypeId) (x y : Operand) (ho : o.op = .store ty x y)
    (g off : Nat) (cells : Array Value) (hx : a.eval x = .pointer (some ⟨g, off, none⟩)) (hy : a.eval y = .agg cells)
    (t : TypeId) (cur : Array Value) (hg : w.heap[g]? = some (.cells cur t (0, 0))) (hi : (P.info? ty).map (·.size) = some cells.size)
    (hold : off + cells.size ≤ cur.size) (h1 : cells.all (·.oneCell') = true)
    (h : wpList P ops Q rest (a.put o.dst undef) (w.setRow g (cur.toList.take off ++ cells.toList ++ cur.toList.drop (off + cells.size)).toArray)) : wpList P ops Q (o :: rest) a w := by
  have hs := run_storeCells_at (P := P) g off t cells.toList 0 cur w hg (by simp; omega) (fun v hv => (Array.all_eq_true_iff_forall_mem.1 h1) v (by simpa using hv))
  have hst : (storeVar ty ⟨g, off, none⟩ (.agg cells)).run P w = .ok () (w.setRow g (cur.toList.take off ++ cells.toList ++ cur.toList.drop (off + cells.size)).toArray) := by
    cases hq : P.info? ty with
    | none => simp [hq] at hi
    | some i =>
      have hz : cells.size = i.size := by simp [hq] at hi; omega
      simp only [Nat.add_zero, Array.length_toList] at hs
      simp [storeVar, sizeOf, typeInfo, hq, Value.cells, hz.symm, hs]
  refine wpList_plain hgd fun K hK => ?_
  unfold Oper.wp execOp
  simp only [ho, hx, hy, Instr.storeAt, Instr.sureAddr, Sem.run_bind, Sem.run_pure, Result.andThen_ok, hst]
  exact hK _ _ h
theorem RowIn.free {w : World} {base : Nat} {ok : Nat → Prop} {A : Option Addr} {xs : List S53} (h : RowIn w base ok A xs) : RowIn w base (fun _ => True) A xs := by
  obtain ⟨c, h⟩ := h
  exact ⟨c, Kd.R_mono h (fun k hk => trivial)⟩
theorem subOk_of {w : World} {base : Nat} {o1 o2 : Nat → Prop} {L : Sl} {x : Sb} (h1 : RowIn w base o1 L.A x.p) (h2 : RowIn w base o2 L.B x.s) (c1 : x.p.length ≤ L.c) (c2 : x.s.length ≤ L.d) (tp : TokOk x.p) (ts : TokOk x.s) (hp : x.pad.size ≤ 128) : SubOk w L x :=
  ⟨⟨h1.C, c1, h2.C, c2, tp.2, ts.2⟩, tp, ts, by omega⟩
theorem subOk_zero (w : World) : SubOk w Lz zeroSb2 := subOk_of (base := 0) (o1 := fun _ => True) (o2 := fun _ => True) (RowIn.nil _ _ _) (RowIn.nil _ _ _) (Nat.le_refl _) (Nat.le_refl _) tok_nil tok_nil (by decide)
theorem info24 : (Try.prog.info? 24).map (·.size) = some 12 := by kernel_rfl
def MidP (w w1 : World) (k5 : Nat) (s : ByteArray) (wc : World) : Prop := ∃ (q : Int) (x : Pt) (L M : Sl), parseP s = finP s q x ∧ wc.heap[k5]? = some (.cells (patC L M x) 26 (0, 0)) ∧ wc.heap[w.heap.size]? = some (.cells (patC Lz Lz zeroPt) 26 (0, 0)) ∧ wc.cell? ⟨w1.heap.size, 1, none⟩ = some (.int .i64 q) ∧ OwnP wc w1.heap.size L M x ∧ SubOk wc L x.pos ∧ SubOk wc M x.neg ∧ Below w1.heap.size w1 wc
theorem sub_width {w : World} {base : Nat} {o1 o2 : Nat → Prop} {L : Sl} {s : ByteArray} {p n : Int} {y : St} (hs : s.size ≤ 128) (hr : runS s (stepsFrom 0) ⟨p, zeroSb2, n⟩ = some y) (hv : InvP s 8 y) (h1 : RowIn w base o1 L.A (widthS y).p) (h2 : RowIn w base o2 L.B (widthS y).s) (c1 : (widthS y).p.length ≤ L.c) (c2 : (widthS y).s.length ≤ L.d) : SubOk w L (widthS y) := by
  have hw := width_same y
  exact subOk_of h1 h2 c1 c2 (by rw [hw.1]; exact hv.tp) (by rw [hw.2.1]; exact hv.ts) (by rw [hw.2.2]; exact run_pad hs _ _ _ (by show (0 : Nat) ≤ 128; omega) hr)
theorem mid_one {w w1 w5 w6 : World} {k5 : Nat} {s : ByteArray} {m : Mk} {L : Sl} {y : St} {g : Nat} (hs : s.size ≤ 128) (hr : runS s (stepsFrom 0) ⟨0, zeroSb2, 0⟩ = some y) (hv : InvP s 8 y) (hg : g = w1.heap.size)
    (hE : parseP s = finP s y.p ⟨widthS y, false, zeroSb2⟩) (hC : CW w1 w6 g ⟨m.m, w5⟩ L s y.p (widthS y) y.n) (hk : w5.heap[k5]? = some (.cells (patC L Lz ⟨widthS y, false, zeroSb2⟩) 26 (0, 0))) (hkg : k5 ≠ g) (hlt : w.heap.size < g)
    (ha : w5.heap[w.heap.size]? = some (.cells (patC Lz Lz zeroPt) 26 (0, 0))) : MidP w w1 k5 s w6 := by
  subst hg
  exact ⟨y.p, ⟨widthS y, false, zeroSb2⟩, L, Lz, hE, (hC.kept k5 (blk_lt hk) hkg).trans hk, (hC.kept _ (blk_lt ha) (by omega)).trans ha, hC.c1, ⟨hC.rp.free, hC.rs.free, RowIn.nil _ _ _, RowIn.nil _ _ _, hC.pc, hC.sc, Nat.le_refl _, Nat.le_refl _⟩, sub_width hs hr hv hC.rp hC.rs hC.pc hC.sc, subOk_zero _, hC.below⟩
theorem mid_two {w w1 w5 w6 w7 w8 w9 w10 : World} {k5 : Nat} {s : ByteArray} {m m2 : Mk} {L L2 : Sl} {y y2 : St} {g : Nat} {p' n' : Int} {c7 c10 : Array Value} (hs : s.size ≤ 128) (hr : runS s (stepsFrom 0) ⟨0, zeroSb2, 0⟩ = some y) (hv : InvP s 8 y) (hr2 : runS s (stepsFrom 0) ⟨p', zeroSb2, n'⟩ = some y2) (hv2 : InvP s 8 y2) (hg : g = w1.heap.size)
    (hE : parseP s = finP s y2.p ⟨widthS y, true, widthS y2⟩) (hC : CW w1 w6 g ⟨m.m, w5⟩ L s p' (widthS y) y.n) (h7 : w7 = w6.setRow g c7) (hkeep : KeepG w7 w8 g) (hC8 : CW w1 w8 g m2 L2 s y2.p (widthS y2) y2.n) (h9 : w9 = w8.setCell ⟨k5, 12, none⟩ (.bool true)) (h10 : w10 = w9.setRow k5 c10) (hc10 : c10 = patC L L2 ⟨widthS y, true, widthS y2⟩)
    (hk : w5.heap[k5]? = some (.cells (patC L Lz ⟨widthS y, false, zeroSb2⟩) 26 (0, 0))) (hkg : k5 ≠ g) (hk1 : w1.heap.size ≤ k5) (hlt : w.heap.size < g)
    (ha : w5.heap[w.heap.size]? = some (.cells (patC Lz Lz zeroPt) 26 (0, 0))) : MidP w w1 k5 s w10 := by
  have z6 := hC.rz
  have z7 : w7.heap.size = w6.heap.size := by rw [h7]; simp
  have f8 : ∀ k, k < w5.heap.size → k ≠ g → w8.heap[k]? = w5.heap[k]? := fun k h1 h2 => by
    rw [hkeep.2 k (by show k < w7.heap.size; have : w5.heap.size ≤ w6.heap.size := z6; omega) h2, h7, setRow_other _ _ _ _ h2]
    exact hC.kept k h1 h2
  have k8 := (f8 k5 (blk_lt hk) hkg).trans hk
  have f10 : ∀ k, k ≠ k5 → w10.heap[k]? = w8.heap[k]? := fun k h => by
    rw [h10, setRow_other _ _ _ _ h, h9]
    exact Below.heap_setCell w8 _ _ k h
  have k9 : w9.heap[k5]? = some (.cells (patC L Lz ⟨widthS y, true, zeroSb2⟩) 26 (0, 0)) := by rw [h9]; exact blk_put k8 12 _ rfl
  have k10 : w10.heap[k5]? = some (.cells (patC L L2 ⟨widthS y, true, widthS y2⟩) 26 (0, 0)) := by rw [h10, hc10]; exact setRow_heap _ _ _ _ _ _ k9
  have a10 := (f10 _ (show w.heap.size ≠ k5 by omega)).trans ((f8 _ (blk_lt ha) (by omega)).trans ha)
  have g10 := (f10 g (fun h => hkg h.symm)).trans hC8.blk
  have m6 : ∀ (k : Nat) (cs : Array Value), w6.heap[k]? = some (.cells cs 53 (0, 0)) → w10.heap[k]? = w6.heap[k]? := fun k cs h => by
    have n1 : k ≠ g := fun e => by subst e; rw [hC.blk] at h; simp at h
    have e8 : w8.heap[k]? = w6.heap[k]? := by rw [hkeep.2 k (by have := blk_lt h; omega) n1, h7, setRow_other _ _ _ _ n1]
    have n2 : k ≠ k5 := fun e => by subst e; rw [← e8, k8] at h; simp at h
    rw [f10 k n2, e8]
  have m8 : ∀ (k : Nat) (cs : Array Value), w8.heap[k]? = some (.cells cs 53 (0, 0)) → w10.heap[k]? = w8.heap[k]? := fun k cs h =>
    f10 k (fun e => by subst e; rw [k8] at h; simp at h)
  have r1 := row_moved hC.rp.free m6
  have r2 := row_moved hC.rs.free m6
  have r3 := row_moved hC8.rp.free m8
  have r4 := row_moved hC8.rs.free m8
  have hb : Below w1.heap.size w1 w10 := by
    rw [h10, h9]
    exact below_setRow (below_set hC8.below hk1) hk1
  subst hg
  exact ⟨y2.p, ⟨widthS y, true, widthS y2⟩, L, L2, hE, k10, a10, (blk_cell g10 1).trans rfl, ⟨r1, r2, r3, r4, hC.pc, hC.sc, hC8.pc, hC8.sc⟩, sub_width hs hr hv r1 r2 hC.pc hC.sc, sub_width hs hr2 hv2 r3 r4 hC8.pc hC8.sc, hb⟩
theorem RowIn.lower {w : World} {base b2 : Nat} {ok : Nat → Prop} {A : Option Addr} {xs : List S53} (h : RowIn w base ok A xs) (hb : b2 ≤ base) : RowIn w b2 ok A xs := by
  obtain ⟨c, h⟩ := h
  exact ⟨c, Kd.R_lower h hb⟩
theorem OwnP.put {w7 w8 : World} {base b2 : Nat} {L M : Sl} {x : Pt} {g : Nat} {cur cs : Array Value} (h : OwnP w7 base L M x) (hb : Below w7.heap.size w7 w8) (hg : w8.heap[g]? = some (.cells cur 26 (0, 0))) (hl : b2 ≤ base) : OwnP (w8.setRow g cs) b2 L M x := by
  have hm : ∀ (k : Nat) (cj : Array Value), w8.heap[k]? = some (.cells cj 53 (0, 0)) → (w8.setRow g cs).heap[k]? = w8.heap[k]? := fun k cj hk => setRow_other _ _ _ _ (blk_ne hk hg (by decide))
  exact ⟨row_moved ((h.pp.below hb).lower hl) hm, row_moved ((h.ps.below hb).lower hl) hm, row_moved ((h.np.below hb).lower hl) hm, row_moved ((h.ns.below hb).lower hl) hm, h.c1, h.c2, h.c3, h.c4⟩
theorem doneQ_some {w w7 w8 : World} {base : Nat} {L M : Sl} {x : Pt} {r : Pt × Int} {g : Nat} {cur cs : Array Value} (hr : r = (x, 0)) (h : OwnP w7 base L M x) (hb : Below w7.heap.size w7 w8) (hg : w8.heap[g]? = some (.cells cur 26 (0, 0))) (hl : w.heap.size ≤ base) (h7 : Below w.heap.size w w8) (hgg : w.heap.size ≤ g) : DoneQ w r (.returned (.tuple #[patV L M x, .int .i64 0])) (w8.setRow g cs) := by
  subst hr
  exact ⟨L, M, rfl, h.put hb hg hl, below_setRow h7 hgg⟩
set_option maxHeartbeats 16000000 in
set_option maxRecDepth 100000 in
theorem parse_walk (s : ByteArray) (w : World) (hG : Glob w) : Calls Try.prog 15 #[.string s] w (DoneQ w (parseP s)) := by
  have HG := Aside0.mk hG
  have hu26 := Try.underlying26
  clear hG
  go_enter Try.func15, Try.ntmps15
  go_upto_region 1 with (fail)
  go_cut [9] (fun v wc => v = .bool (decide (128 < (s.size : Int))) ∧ Aside0 (wc.heap[w.heap.size]? = some (.cells (patC Lz Lz zeroPt) 26 (0, 0))) ∧ Aside0 (Below w.heap.size w wc))
  case first =>
    have h1 := heap_alloc_new w (.cells (patC Lz Lz zeroPt) 26)
    have HA := Aside0.mk h1
    clear h1
    go_wp2
    go_meet
    case rel => exact ⟨rfl, HA, ⟨below_alloc (Below.refl _ _) _⟩⟩
  case rest =>
    obtain ⟨w1, rfl⟩ : ∃ w1 : World, w1 = wc := ⟨_, rfl⟩
    obtain ⟨rfl, HA, HB⟩ := hcut
    cases d : decide (128 < (s.size : Int)) with
    | true =>
      have HE := Aside0.mk (show parseP s = (zeroPt, 142) by unfold parseP; rw [if_pos (by have := of_decide_eq_true d; omega)])
      go_wp2_with (first | ((with_reducible refine gate_store (t := 26) (p := 2) rfl ?_); refine wpList_store_row rfl 26 (.tmp 2) (.tmp 10) rfl w.heap.size (patC Lz Lz zeroPt) rfl rfl 26 (patC Lz Lz zeroPt) HA.out info26 rfl (by simp [Value.oneCell']) ?_))
      exact bodyPost_ret (results_ct results15 _ _ w.heap.size 26 (patC Lz Lz zeroPt) (0, 0) _ rfl (setRow_heap _ _ _ _ _ _ HA.out) Try.underlying26 rfl info26) rfl (doneQ_zero HE.out (below_setRow HB.out (Nat.le_refl _)))
    | false =>
      have hs : s.size ≤ 128 := by have := of_decide_eq_false d; omega
      have HP := Aside0.mk hs
      have HE := Aside0.mk (show parseP s = (match scanA s 0 with
        | none => (zeroPt, 140)
        | some x => if bAt s x.1 59 = true then (match scanA s (x.1 + 1) with
          | none => (zeroPt, 140)
          | some y => finP s y.1 ⟨x.2, true, y.2⟩) else finP s x.1 ⟨x.2, false, zeroSb2⟩) by unfold parseP; rw [if_neg (by omega)])
      have HG1 := Aside0.mk (Glob_below HG.out HB.out)
      have HLT := Aside0.mk (show w.heap.size < w1.heap.size from blk_lt HA.out)
      clear hs
      cases hS : runS s (stepsFrom 0) ⟨0, zeroSb2, 0⟩ with
      | none =>
        have HE2 := Aside0.mk (show parseP s = (zeroPt, 140) by rw [HE.out]; unfold scanA; rw [hS]; rfl)
        go_wp2_with (first | ((with_reducible refine gate_dst (N := 13) rfl ?_); refine box_event ?hg (N := 13) ?hd (cs := scC Lz s 0 zeroSb2 0) (t := 48) ?hr ?_; (case hd => rfl); (case hg => rfl); (case hr => first | (go_simp; done) | (go_simp; rfl)); intro gb hgb w2 hbox hbb; subst hgb; have HC := Aside0.mk (CW.start hbb hbox); clear hbox hbb) | (go_at_call 26; ((refine (all_calls HG1.out rfl HC.out (Int.le_refl _) (by omega) HP.out).mono ?_); rw [hS]; rintro e w3 ⟨rfl, hb, _⟩; have HBL := Aside0.mk hb; have HA3 := Aside0.mk ((hb.block _ HLT.out).trans HA.out); clear hb)) | ((with_reducible refine gate_store (t := 26) (p := 2) rfl ?_); refine wpList_store_row rfl 26 (.tmp 2) (.tmp 17) rfl w.heap.size (patC Lz Lz zeroPt) rfl rfl 26 (patC Lz Lz zeroPt) HA3.out info26 rfl (by simp [Value.oneCell']) ?_))
        exact bodyPost_ret (results_ct results15 _ _ w.heap.size 26 (patC Lz Lz zeroPt) (0, 0) _ rfl (setRow_heap _ _ _ _ _ _ HA3.out) Try.underlying26 rfl info26) rfl (doneQ_zero HE2.out (below_setRow (below_then HB.out (Nat.le_of_lt HLT.out) HBL.out) (Nat.le_refl _)))
      | some y =>
        have HX := Aside0.mk (show scanA s 0 = some (y.p, widthS y) by unfold scanA; rw [hS]; rfl)
        go_upto_region 7 with (first | ((with_reducible refine gate_dst (N := 13) rfl ?_); refine box_event ?hg (N := 13) ?hd (cs := scC Lz s 0 zeroSb2 0) (t := 48) ?hr ?_; (case hd => rfl); (case hg => rfl); (case hr => first | (go_simp; done) | (go_simp; rfl)); intro gb hgb w2 hbox hbb; subst hgb; have HC := Aside0.mk (CW.start hbb hbox); clear hbox hbb) | (go_at_call 26; ((refine (all_calls HG1.out rfl HC.out (Int.le_refl _) (by omega) HP.out).mono ?_); rw [hS]; rintro e w3 ⟨rfl, hinv, hkeep, m, L, hc⟩; have HV := Aside0.mk hinv; have HC1 := Aside0.mk hc; clear HC hinv hkeep hc; have HC := HC1; clear HC1; have e1 := HC.out.c1; have e2 := HC.out.c2; have e3 := HC.out.c3; have e4 := HC.out.c4; have e5 := HC.out.c5; have e6 := HC.out.c6; have e7 := HC.out.c7; have e8 := HC.out.c8; have e9 := HC.out.c9; have e10 := HC.out.c10; have e11 := HC.out.c11; have e12 := HC.out.c12; have e13 := HC.out.c13)) | ((with_reducible refine gate_dst (N := 5) rfl ?_); refine box_event ?hg (N := 5) ?hd (cs := patC Lz Lz zeroPt) (t := 26) ?hr ?_; (case hd => rfl); (case hg => rfl); (case hr => first | (go_simp; done) | (go_simp; rfl)); intro k5 hk5 w4 hbox hbb; have HK := Aside0.mk hbox; have HKG := Aside0.mk (show m.R.heap.size ≤ k5 ∧ w1.heap.size ≤ k5 by have z1 := HC.out.rz; have z2 := HC.out.below.size; omega); have nc := Aside0.mk (HC.out.step hbb); clear HC hbox hbb hk5 e1 e2 e3 e4 e5 e6 e7 e8 e9 e10 e11 e12 e13; have HC := nc; clear nc) | ((with_reducible refine gate_store (t := 26) (p := 5) rfl ?_); refine wpList_store_row rfl 26 (.tmp 5) (.tmp 22) rfl k5 (patC L Lz ⟨widthS y, false, zeroSb2⟩) rfl rfl 26 (patC Lz Lz zeroPt) HK.out info26 rfl (by simp [Value.oneCell']) ?_; generalize hW5 : World.setRow w4 k5 (patC L Lz ⟨widthS y, false, zeroSb2⟩) = w5; have H5 : Aside0 (CW w1 w5 w1.heap.size m L s y.p (widthS y) y.n) := ⟨by rw [← hW5]; exact HC.out.other HK.out HKG.out.2 HKG.out.1⟩; have KNE := Aside0.mk (fun e : k5 = w1.heap.size => blk_ne HC.out.blk HK.out (by decide) e.symm); have K5 : Aside0 (w5.heap[k5]? = some (.cells (patC L Lz ⟨widthS y, false, zeroSb2⟩) 26 (0, 0))) := ⟨by rw [← hW5]; exact setRow_heap _ _ _ _ _ _ HK.out⟩; have A5 : Aside0 (w5.heap[w.heap.size]? = some (.cells (patC Lz Lz zeroPt) 26 (0, 0))) := ⟨by have q1 := HLT.out; have q2 := HKG.out.2; rw [← hW5, setRow_other _ _ _ _ (by omega)]; exact (HC.out.below.block _ HLT.out).trans HA.out⟩; clear HC HK hW5))
        go_upto_if 24 with (go_at_call 27; ((refine (next_calls H5.out.keep 59 HV.out.p0 HP.out).mono ?_); rintro e w6 ⟨rfl, hc⟩; have H6 := Aside0.mk hc; clear H5 hc))
        rename_i K hK
        go_cut [] (fun wc => Aside0 (MidP w w1 k5 s wc))
        case first =>
          cases hb : bAt s y.p 59 with
          | false =>
            have HM := Aside0.mk (mid_one HP.out hS HV.out rfl (show parseP s = finP s y.p ⟨widthS y, false, zeroSb2⟩ by rw [HE.out, HX.out]; show (if bAt s y.p 59 = true then _ else _) = _; rw [if_neg (by rw [hb]; decide)]) (by have := H6.out; rw [nextP_no hb] at this; exact this) K5.out KNE.out HLT.out A5.out)
            go_wp2
            go_meet
            case rel => exact HM
          | true =>
            have H7 : Aside0 (CW w1 w6 w1.heap.size ⟨m.m, w5⟩ L s (y.p + 1) (widthS y) y.n) := ⟨by have := H6.out; rw [nextP_yes hb] at this; exact this⟩
            clear H6
            have HIN := Aside0.mk (bAt_in hb)
            have HE1 := Aside0.mk (show parseP s = (match scanA s (y.p + 1) with | none => (zeroPt, 140) | some z => finP s z.1 ⟨widthS y, true, z.2⟩) by rw [HE.out, HX.out]; show (if bAt s y.p 59 = true then _ else _) = _; rw [if_pos hb])
            clear HE HX
            cases hS2 : runS s (stepsFrom 0) ⟨y.p + 1, zeroSb2, y.n⟩ with
            | none =>
              have HE2 := Aside0.mk (show parseP s = (zeroPt, 140) by rw [HE1.out]; unfold scanA; rw [← run_n s (y.p + 1) zeroSb2 y.n, hS2]; rfl)
              go_wp2_with (first | ((with_reducible refine gate_store (t := 24) (p := 28) rfl ?_); refine wpList_store_mid rfl 24 (.tmp 28) (.tmp 26) rfl w1.heap.size 2 (subC Lz zeroSb2) rfl rfl 48 (scC L s (y.p + 1) (widthS y) y.n) H7.out.blk info24 (Nat.le_of_ble_eq_true rfl) (by simp [Value.oneCell']) ?_; generalize hW7 : World.setRow w6 w1.heap.size _ = w7; have W7 := Aside0.mk hW7.symm; have H8 : Aside0 (CW w1 w7 w1.heap.size ⟨m.m, w5⟩ Lz s (y.p + 1) zeroSb2 y.n) := ⟨by rw [← hW7]; exact H7.out.reset rfl⟩; have K7 := Aside0.mk ((H8.out.kept k5 (blk_lt K5.out) KNE.out).trans K5.out); have A7 := Aside0.mk ((H8.out.kept _ (blk_lt A5.out) (by have := HLT.out; show w.heap.size ≠ w1.heap.size; omega)).trans A5.out); clear hW7) | (go_at_call 26; ((refine (all_calls HG1.out rfl H8.out.keep (by have := HV.out.p0; omega) HIN.out HP.out).mono ?_); rw [hS2]; rintro e w8 ⟨rfl, hbl, hkp⟩; have B8 := Aside0.mk hbl; have K8 := Aside0.mk ((hkp.2 k5 (blk_lt K7.out) KNE.out).trans K7.out); have A8 := Aside0.mk ((hkp.2 _ (blk_lt A7.out) (by have := HLT.out; omega)).trans A7.out); clear hbl hkp; have c12 := pat_c12 K8.out; have z12 := blk_frozen K8.out 12)) | ((with_reducible refine gate_store (t := 26) (p := 2) rfl ?_); refine wpList_store_row rfl 26 (.tmp 2) (.tmp 35) rfl w.heap.size (patC Lz Lz zeroPt) rfl rfl 26 (patC Lz Lz zeroPt) ((Below.heap_setCell w8 _ _ _ (by have q1 := HLT.out; have q2 := HKG.out.2; show w.heap.size ≠ k5; omega)).trans A8.out) info26 rfl (by simp [Value.oneCell']) ?_))
              exact bodyPost_ret (results_ct results15 _ _ w.heap.size 26 (patC Lz Lz zeroPt) (0, 0) _ rfl (setRow_heap _ _ _ _ _ _ ((Below.heap_setCell w8 _ _ _ (by have q1 := HLT.out; have q2 := HKG.out.2; show w.heap.size ≠ k5; omega)).trans A8.out)) Try.underlying26 rfl info26) rfl (doneQ_zero HE2.out (below_setRow (below_set (below_then HB.out (Nat.le_of_lt HLT.out) B8.out) (by have q1 := HLT.out; have q2 := HKG.out.2; omega)) (Nat.le_refl _)))
            | some y2 =>
              have HE2 := Aside0.mk (show parseP s = finP s y2.p ⟨widthS y, true, widthS y2⟩ by rw [HE1.out]; unfold scanA; rw [← run_n s (y.p + 1) zeroSb2 y.n, hS2]; rfl)
              go_wp2_with (first | ((with_reducible refine gate_store (t := 24) (p := 28) rfl ?_); refine wpList_store_mid rfl 24 (.tmp 28) (.tmp 26) rfl w1.heap.size 2 (subC Lz zeroSb2) rfl rfl 48 (scC L s (y.p + 1) (widthS y) y.n) H7.out.blk info24 (Nat.le_of_ble_eq_true rfl) (by simp [Value.oneCell']) ?_; generalize hW7 : World.setRow w6 w1.heap.size _ = w7; have W7 := Aside0.mk hW7.symm; have H8 : Aside0 (CW w1 w7 w1.heap.size ⟨m.m, w5⟩ Lz s (y.p + 1) zeroSb2 y.n) := ⟨by rw [← hW7]; exact H7.out.reset rfl⟩; have K7 := Aside0.mk ((H8.out.kept k5 (blk_lt K5.out) KNE.out).trans K5.out); have A7 := Aside0.mk ((H8.out.kept _ (blk_lt A5.out) (by have := HLT.out; show w.heap.size ≠ w1.heap.size; omega)).trans A5.out); clear hW7) | (go_at_call 26; ((refine (all_calls HG1.out rfl H8.out.keep (by have := HV.out.p0; omega) HIN.out HP.out).mono ?_); rw [hS2]; rintro e w8 ⟨rfl, hinv, hkp, m2, L2, hc⟩; have HV2 := Aside0.mk hinv; have H9 := Aside0.mk hc; have KP := Aside0.mk hkp; have K8 := Aside0.mk ((hkp.2 k5 (blk_lt K7.out) KNE.out).trans K7.out); clear hinv hkp hc; have c12 := pat_c12 K8.out; have z12 := blk_frozen K8.out 12; have b9 : Aside0 ((w8.setCell ⟨k5, 12, none⟩ (.bool true)).heap[w1.heap.size]? = some (.cells (scC L2 s y2.p (widthS y2) y2.n) 48 (0, 0))) := ⟨(Below.heap_setCell w8 _ _ _ (fun e => KNE.out e.symm)).trans H9.out.blk⟩; have K9 : Aside0 ((w8.setCell ⟨k5, 12, none⟩ (.bool true)).heap[k5]? = some (.cells (patC L Lz ⟨widthS y, true, zeroSb2⟩) 26 (0, 0))) := ⟨blk_put K8.out 12 _ rfl⟩; have e2 : (w8.setCell ⟨k5, 12, none⟩ (.bool true)).cell? ⟨w1.heap.size, 2, none⟩ = _ := (blk_cell b9.out 2).trans rfl; have e3 : (w8.setCell ⟨k5, 12, none⟩ (.bool true)).cell? ⟨w1.heap.size, 3, none⟩ = _ := (blk_cell b9.out 3).trans rfl; have e4 : (w8.setCell ⟨k5, 12, none⟩ (.bool true)).cell? ⟨w1.heap.size, 4, none⟩ = _ := (blk_cell b9.out 4).trans rfl; have e5 : (w8.setCell ⟨k5, 12, none⟩ (.bool true)).cell? ⟨w1.heap.size, 5, none⟩ = _ := (blk_cell b9.out 5).trans rfl; have e6 : (w8.setCell ⟨k5, 12, none⟩ (.bool true)).cell? ⟨w1.heap.size, 6, none⟩ = _ := (blk_cell b9.out 6).trans rfl; have e7 : (w8.setCell ⟨k5, 12, none⟩ (.bool true)).cell? ⟨w1.heap.size, 7, none⟩ = _ := (blk_cell b9.out 7).trans rfl; have e8 : (w8.setCell ⟨k5, 12, none⟩ (.bool true)).cell? ⟨w1.heap.size, 8, none⟩ = _ := (blk_cell b9.out 8).trans rfl; have e9 : (w8.setCell ⟨k5, 12, none⟩ (.bool true)).cell? ⟨w1.heap.size, 9, none⟩ = _ := (blk_cell b9.out 9).trans rfl; have e10 : (w8.setCell ⟨k5, 12, none⟩ (.bool true)).cell? ⟨w1.heap.size, 10, none⟩ = _ := (blk_cell b9.out 10).trans rfl; have e11 : (w8.setCell ⟨k5, 12, none⟩ (.bool true)).cell? ⟨w1.heap.size, 11, none⟩ = _ := (blk_cell b9.out 11).trans rfl; have e12 : (w8.setCell ⟨k5, 12, none⟩ (.bool true)).cell? ⟨w1.heap.size, 12, none⟩ = _ := (blk_cell b9.out 12).trans rfl; have e13 : (w8.setCell ⟨k5, 12, none⟩ (.bool true)).cell? ⟨w1.heap.size, 13, none⟩ = _ := (blk_cell b9.out 13).trans rfl)) | ((with_reducible refine gate_store (t := 24) (p := 40) rfl ?_); refine wpList_store_mid rfl 24 (.tmp 40) (.tmp 39) rfl k5 13 (subC L2 (widthS y2)) rfl rfl 26 (patC L Lz ⟨widthS y, true, zeroSb2⟩) K9.out info24 (Nat.le_of_ble_eq_true rfl) (by simp [Value.oneCell']) ?_))
              go_meet
              case rel => exact ⟨mid_two HP.out hS HV.out hS2 HV2.out rfl HE2.out H7.out W7.out KP.out H9.out rfl rfl rfl K5.out KNE.out HKG.out.2 HLT.out A5.out⟩
        case rest =>
          obtain ⟨w7, rfl⟩ : ∃ w7 : World, w7 = wc := ⟨_, rfl⟩
          refine hK _ _ ?_
          clear hK
          obtain ⟨q, ⟨pos, ng, neg⟩, L2, M2, hq1, hq2, hq3, hq4, hq5, hq6, hq7, hq8⟩ := hcut.out
          have HFN := Aside0.mk hq1
          have BK := Aside0.mk hq2
          have BA := Aside0.mk hq3
          have OW := Aside0.mk hq5
          have SP := Aside0.mk hq6
          have SN := Aside0.mk hq7
          have BB := Aside0.mk (below_then HB.out (Nat.le_of_lt HLT.out) hq8)
          have GG := Aside0.mk (Glob_below HG1.out hq8)
          have LL := Aside0.mk (Nat.le_of_lt HLT.out)
          clear hcut hq1 hq2 hq3 hq5 hq6 hq7 hq8 H6 K5 A5 HE HX
          cases d2 : decide (q < (s.size : Int)) with
          | true =>
            have HE3 := Aside0.mk (show parseP s = (zeroPt, 140) by rw [HFN.out]; unfold finP; rw [if_pos (of_decide_eq_true d2)])
            go_wp2_with (first | ((with_reducible refine gate_store (t := 26) (p := 2) rfl ?_); refine wpList_store_row rfl 26 (.tmp 2) (.tmp 48) rfl w.heap.size (patC Lz Lz zeroPt) rfl rfl 26 (patC Lz Lz zeroPt) BA.out info26 rfl (by simp [Value.oneCell']) ?_))
            exact bodyPost_ret (results_ct results15 _ _ w.heap.size 26 (patC Lz Lz zeroPt) (0, 0) _ rfl (setRow_heap _ _ _ _ _ _ BA.out) Try.underlying26 rfl info26) rfl (doneQ_zero HE3.out (below_setRow BB.out (Nat.le_refl _)))
          | false =>
            have HF2 := Aside0.mk (show parseP s = if checkP ⟨pos, ng, neg⟩ = 0 then (⟨pos, ng, neg⟩, 0) else (zeroPt, checkP ⟨pos, ng, neg⟩) by rw [HFN.out]; unfold finP; rw [if_neg (of_decide_eq_false d2)])
            obtain ⟨ec, hec⟩ : ∃ ec : Int, checkP ⟨pos, ng, neg⟩ = ec := ⟨_, rfl⟩
            have HEC := Aside0.mk hec
            clear hec HFN
            cases d3 : (ec != 0) with
            | true =>
              have HE3 := Aside0.mk (show parseP s = (zeroPt, ec) by rw [HF2.out, HEC.out, if_neg (bne_iff_ne.mp d3)])
              go_wp2_with (first | ((with_reducible refine gate_dst (N := 49) rfl ?_); refine wpList_load_row rfl 26 (.tmp 5) rfl k5 rfl 26 (patC L2 M2 ⟨pos, ng, neg⟩) (0, 0) _ BK.out Try.underlying26 rfl info26 ?_) | (go_at_call 11; ((refine (pcheck_walk L2 M2 pos ng neg _ GG.out SP.out SN.out).mono ?_); rw [HEC.out]; rintro e w8 ⟨rfl, hb⟩; have B8 := Aside0.mk hb; clear hb; have BA8 := Aside0.mk ((B8.out.block _ (blk_lt BA.out)).trans BA.out))) | ((with_reducible refine gate_store (t := 26) (p := 2) rfl ?_); refine wpList_store_row rfl 26 (.tmp 2) (.tmp 53) rfl w.heap.size (patC Lz Lz zeroPt) rfl rfl 26 (patC Lz Lz zeroPt) BA8.out info26 rfl (by simp [Value.oneCell']) ?_))
              exact bodyPost_ret (results_ct results15 _ _ w.heap.size 26 (patC Lz Lz zeroPt) (0, 0) _ rfl (setRow_heap _ _ _ _ _ _ BA8.out) Try.underlying26 rfl info26) rfl (doneQ_zero HE3.out (below_setRow (below_step BB.out B8.out) (Nat.le_refl _)))
            | false =>
              have hz : ec = 0 := by simpa using d3
              have HE3 := Aside0.mk (show parseP s = (⟨pos, ng, neg⟩, 0) by rw [HF2.out, HEC.out, if_pos hz])
              go_wp2_with (first | ((with_reducible refine gate_dst (N := 49) rfl ?_); refine wpList_load_row rfl 26 (.tmp 5) rfl k5 rfl 26 (patC L2 M2 ⟨pos, ng, neg⟩) (0, 0) _ BK.out Try.underlying26 rfl info26 ?_) | ((with_reducible refine gate_dst (N := 55) rfl ?_); refine wpList_load_row rfl 26 (.tmp 5) rfl k5 rfl 26 (patC L2 M2 ⟨pos, ng, neg⟩) (0, 0) _ BK8.out Try.underlying26 rfl info26 ?_) | (go_at_call 11; ((refine (pcheck_walk L2 M2 pos ng neg _ GG.out SP.out SN.out).mono ?_); rw [HEC.out]; rintro e w8 ⟨rfl, hb⟩; have B8 := Aside0.mk hb; clear hb; have BA8 := Aside0.mk ((B8.out.block _ (blk_lt BA.out)).trans BA.out); have BK8 := Aside0.mk ((B8.out.block _ (blk_lt BK.out)).trans BK.out))) | ((with_reducible refine gate_store (t := 26) (p := 2) rfl ?_); refine wpList_store_row rfl 26 (.tmp 2) (.tmp 55) rfl w.heap.size (patC L2 M2 ⟨pos, ng, neg⟩) rfl rfl 26 (patC Lz Lz zeroPt) BA8.out info26 rfl (by simp [Value.oneCell']) ?_))
              exact bodyPost_ret (results_ct results15 _ _ w.heap.size 26 (patC L2 M2 ⟨pos, ng, neg⟩) (0, 0) _ rfl (setRow_heap _ _ _ _ _ _ BA8.out) Try.underlying26 rfl info26) rfl (doneQ_some HE3.out OW.out B8.out BA8.out LL.out (below_step BB.out B8.out) (Nat.le_refl _))
structure FW (w0 w : World) (g : Nat) (L : Sl) (x : Sb) : Prop where
  box : w.heap[w0.heap.size]? = some (.cells (subC L x) 24 (0, 0))
  res : w.heap[g]? = some (.cells (subC Lz zeroSb2) 24 (0, 0))
  below : Below w0.heap.size w0 w
  lt : w0.heap.size < g
namespace FW
variable {w0 w w1 : World} {g : Nat} {L : Sl} {x : Sb} (h : FW w0 w g L x)
include h
theorem step (hb : Below w.heap.size w w1) : FW w0 w1 g L x := ⟨blk_below h.box hb, blk_below h.res hb, below_step h.below hb, h.lt⟩
theorem drew1 : FW w0 w.drew g L x := h.step (below_drew1 (Below.refl _ _))
theorem drewN (n : Nat) : FW w0 (w.drewN n) g L x := h.step (pw_below_drewN (Below.refl _ _) n)
theorem put {y : Sb} (i : Nat) (v : Value) (he : (subC L x).setIfInBounds i v = subC L y) : FW w0 (w.setCell ⟨w0.heap.size, i, none⟩ v) g L y :=
  ⟨blk_put h.box i v he, (Below.heap_setCell w _ _ g (show g ≠ w0.heap.size by have := h.lt; omega)).trans h.res, below_set h.below (Nat.le_refl _), h.lt⟩
theorem fin (cs : Array Value) : Below w0.heap.size w0 (w.setRow g cs) := below_setRow h.below (Nat.le_of_lt h.lt)
end FW
end Go.Proofs.Ytacnjemndfmbhaa.Q
end
section
namespace Go.Proofs.Ytacnjemndfmbhaa.Q
open Go.RowKit Go.Proofs.Ytacnjemndfmbhaa.A Go.Proofs.YtacnjemndfmbhaaW.PrintWords Go.Proofs.YtacnjemndfmbhaaW.PrintLast Go.Proofs.YtacnjemndfmbhaaW.PrintMore
set_option linter.unusedVariables false
set_option linter.unusedSimpArgs false
theorem bAt_nat (s : ByteArray) (q : Nat) (b : UInt8) (h : q < s.data.toList.length) : bAt s q b.toNat = (b == s.data.toList[q]) := by
  have hl : s.data.toList.length = s.size := by simp
  have hq : q < s.size := by omega
  unfold bAt
  rw [decide_eq_true (by omega), Bool.true_and, ← bt_at s (q : Int) (by rw [Int.toNat_natCast]; exact hq)]
  have : s[(q : Int).toNat]'(by rw [Int.toNat_natCast]; exact hq) = s.data.toList[q] := by simp [ByteArray.getElem_eq_getElem_data]
  rw [this]
  cases hb : (b == s.data.toList[q]) with
  | true => rw [beq_iff_eq.mp hb]; simp
  | false =>
    have hn := beq_eq_false_iff_ne.mp hb
    refine beq_eq_false_iff_ne.mpr (fun e => hn ?_)
    exact UInt8.toNat.inj (by omega)
theorem pre_cons (s : ByteArray) (q : Nat) (b : UInt8) (l : List UInt8) : Lib.hasPrefix (s.data.toList.drop q) (b :: l) = (bAt s q b.toNat && Lib.hasPrefix (s.data.toList.drop (q + 1)) l) := by
  unfold Lib.hasPrefix
  by_cases h : q < s.data.toList.length
  · rw [List.drop_eq_getElem_cons h, List.isPrefixOf_cons_cons, bAt_nat s q b h]
  · have hl : s.data.toList.length = s.size := by simp
    rw [List.drop_eq_nil_of_le (by omega)]
    have : bAt s q b.toNat = false := by unfold bAt; rw [decide_eq_false (by omega)]; rfl
    rw [this]
    rfl
theorem ext_drop (s : ByteArray) (q : Nat) : (s.extract q s.size).data.toList = s.data.toList.drop q := by
  have hl : s.data.toList.length = s.size := by simp
  rw [ByteArray.data_extract, Array.toList_extract, List.extract_eq_take_drop]
  exact List.take_of_length_le (by rw [List.length_drop]; omega)
theorem expB_at (s : ByteArray) (q : Int) (h0 : 0 ≤ q) : expB s q = (bAt s q 69 && (bAt s (q + 1) 48 || (bAt s (q + 1) 43 && bAt s (q + 2) 48))) := by
  obtain ⟨n, rfl⟩ : ∃ n : Nat, q = n := ⟨q.toNat, by omega⟩
  have hnil : ∀ l : List UInt8, Lib.hasPrefix l [] = true := fun l => by unfold Lib.hasPrefix; cases l <;> rfl
  unfold expB
  rw [Int.toNat_natCast, ext_drop, pre_cons, pre_cons, pre_cons, pre_cons, pre_cons, hnil, hnil]
  show ((bAt s n 69 && (bAt s ((n + 1 : Nat) : Int) 48 && true)) || (bAt s n 69 && (bAt s ((n + 1 : Nat) : Int) 43 && (bAt s ((n + 1 + 1 : Nat) : Int) 48 && true)))) = _
  rw [show ((n + 1 : Nat) : Int) = (n : Int) + 1 from rfl, show ((n + 1 + 1 : Nat) : Int) = (n : Int) + 2 by omega]
  generalize bAt s n 69 = a
  generalize bAt s ((n : Int) + 1) 48 = b
  generalize bAt s ((n : Int) + 1) 43 = c
  generalize bAt s ((n : Int) + 2) 48 = d
  revert a b c d
  decide
theorem runN_step (s : ByteArray) (b p : Int) : runN s b p = if bAt s p b = true then 1 + runN s b (p + 1) else 0 := by
  unfold runN
  by_cases h : p < s.size
  · rw [show ((s.size : Int) - p).toNat = ((s.size : Int) - (p + 1)).toNat + 1 by omega]
    rfl
  · rw [show ((s.size : Int) - p).toNat = 0 by omega, if_neg (by unfold bAt; rw [decide_eq_false h]; simp)]
    rfl
end Go.Proofs.Ytacnjemndfmbhaa.Q
end
section
namespace Go.Proofs.Ytacnjemndfmbhaa.Q
open Go.RowKit Go.Proofs.Ytacnjemndfmbhaa.A Go.Proofs.Ytacnjemndfmbhaa.R1 Go.Proofs.YtacnjemndfmbhaaW.PrintWords Go.Proofs.YtacnjemndfmbhaaW.PrintLast Go.Proofs.YtacnjemndfmbhaaW.PrintMore
set_option linter.unusedVariables false
set_option linter.unusedSimpArgs false
def Semi (t : ByteArray) : Prop := t.size = 0 ∨ bt t 0 = 59
theorem bt_left (a t : ByteArray) {p : Int} (h0 : 0 ≤ p) (h : p < a.size) : bt (a ++ t) p = bt a p := bt_app_left a t p h0 h
theorem bt_right (a t : ByteArray) {p : Int} (h0 : 0 ≤ p) : bt (a ++ t) (a.size + p) = bt t p := bt_app_right a t p h0
theorem bt_semi {a t : ByteArray} (ht : Semi t) (h : (0 : Int) < t.size) : bt (a ++ t) a.size = 59 := by
  have := bt_right a t (Int.le_refl 0)
  rw [Int.add_zero] at this
  rw [this]
  rcases ht with h1 | h1
  · omega
  · exact h1
theorem bAt_left {a t : ByteArray} (ht : Semi t) {p b : Int} (h0 : 0 ≤ p) (hp : p ≤ a.size) (hb : b ≠ 59) : bAt (a ++ t) p b = bAt a p b := by
  unfold bAt
  have hs := size_app a t
  by_cases h : p < a.size
  · rw [bt_left a t h0 h, decide_eq_true h, decide_eq_true (by omega)]
  · obtain rfl : p = a.size := by omega
    rw [decide_eq_false h, Bool.false_and]
    by_cases h2 : (0 : Int) < t.size
    · rw [bt_semi ht h2, beq_eq_false_iff_ne.mpr (fun e => hb e.symm), Bool.and_false]
    · rw [decide_eq_false (by omega), Bool.false_and]
theorem bAt_right (u b : ByteArray) {p c : Int} (h0 : 0 ≤ p) : bAt (u ++ b) (u.size + p) c = bAt b p c := by
  unfold bAt
  rw [bt_right u b h0, size_app]
  congr 1
  exact decide_eq_decide.mpr (by omega)
theorem runF_left {a t : ByteArray} (ht : Semi t) {b : Int} (hb : b ≠ 59) : ∀ (d e : Nat) (p : Int), 0 ≤ p → p + d = a.size → d ≤ e → runF (a ++ t) b e p = runF a b d p
  | 0, 0, p, _, _, _ => rfl
  | 0, e + 1, p, h0, hd, _ => by
    have h : bAt a p b = false := by unfold bAt; rw [decide_eq_false (by omega)]; rfl
    show (if bAt (a ++ t) p b = true then _ else _) = _
    rw [bAt_left ht h0 (by omega) hb, h]
    rfl
  | d + 1, 0, p, _, _, h => by omega
  | d + 1, e + 1, p, h0, hd, h => by
    show (if bAt (a ++ t) p b = true then 1 + runF (a ++ t) b e (p + 1) else 0) = (if bAt a p b = true then 1 + runF a b d (p + 1) else 0)
    rw [bAt_left ht h0 (by omega) hb, runF_left ht hb d e (p + 1) (by omega) (by omega) (by omega)]
theorem runN_left {a t : ByteArray} (ht : Semi t) {p b : Int} (h0 : 0 ≤ p) (hp : p ≤ a.size) (hb : b ≠ 59) : runN (a ++ t) b p = runN a b p := by
  have := size_app a t
  exact runF_left ht hb _ _ p h0 (by omega) (by omega)
theorem runF_right (u b : ByteArray) (c : Int) : ∀ (d : Nat) (p : Int), 0 ≤ p → runF (u ++ b) c d (u.size + p) = runF b c d p
  | 0, p, _ => rfl
  | d + 1, p, h0 => by
    show (if bAt (u ++ b) (u.size + p) c = true then 1 + runF (u ++ b) c d (u.size + p + 1) else 0) = (if bAt b p c = true then 1 + runF b c d (p + 1) else 0)
    rw [bAt_right u b h0, Int.add_assoc, runF_right u b c d (p + 1) (by omega)]
theorem runN_right (u b : ByteArray) {p c : Int} (h0 : 0 ≤ p) : runN (u ++ b) c (u.size + p) = runN b c p := by
  unfold runN
  rw [runF_right u b c _ p h0, size_app]
  congr 1
  omega
theorem nextP_left {a t : ByteArray} (ht : Semi t) {p b : Int} (h0 : 0 ≤ p) (hp : p ≤ a.size) (hb : b ≠ 59) : nextP (a ++ t) p b = nextP a p b := by unfold nextP; rw [bAt_left ht h0 hp hb]
theorem nextP_right (u b : ByteArray) {p c : Int} (h0 : 0 ≤ p) : nextP (u ++ b) (u.size + p) c = u.size + nextP b p c := by
  unfold nextP
  rw [bAt_right u b h0]
  split
  · omega
  · rfl
theorem expB_left {a t : ByteArray} (ht : Semi t) {q : Int} (h0 : 0 ≤ q) (hp : q ≤ a.size) : expB (a ++ t) q = expB a q := by
  rw [expB_at _ q h0, expB_at _ q h0, bAt_left ht h0 hp (by decide)]
  cases h1 : bAt a q 69 with
  | false => rfl
  | true =>
    have i1 := bAt_in h1
    rw [bAt_left ht (by omega) i1 (by decide), bAt_left ht (by omega) i1 (by decide)]
    cases h2 : bAt a (q + 1) 43 with
    | false => rfl
    | true =>
      have i2 := bAt_in h2
      rw [bAt_left ht (by omega) (show q + 2 ≤ a.size by omega) (by decide)]
theorem expB_right (u b : ByteArray) {p : Int} (h0 : 0 ≤ p) : expB (u ++ b) (u.size + p) = expB b p := by
  rw [expB_at _ _ (by omega), expB_at _ _ h0, Int.add_assoc, Int.add_assoc, bAt_right u b h0, bAt_right u b (by omega), bAt_right u b (by omega), bAt_right u b (by omega)]
theorem ext_left (a t : ByteArray) {i j : Nat} (h : j ≤ a.size) : (a ++ t).extract i j = a.extract i j := by
  apply bytes_inj
  rw [ByteArray.data_extract, ByteArray.data_extract, ByteArray.data_append, Array.toList_extract, Array.toList_extract, Array.toList_append]
  have hl : a.data.toList.length = a.size := rfl
  rw [List.extract_eq_take_drop, List.extract_eq_take_drop, List.drop_append]
  rw [List.take_append_of_le_length]
  rw [List.length_drop]
  omega
theorem ext_right (u b : ByteArray) {i j : Int} (h0 : 0 ≤ i) (h : i ≤ j) : (u ++ b).extract (u.size + i).toNat (u.size + j).toNat = b.extract i.toNat j.toNat := by
  apply bytes_inj
  rw [ByteArray.data_extract, ByteArray.data_extract, ByteArray.data_append, Array.toList_extract, Array.toList_extract, Array.toList_append]
  have hl : u.data.toList.length = u.size := rfl
  rw [List.extract_eq_take_drop, List.extract_eq_take_drop, show ((u.size : Int) + i).toNat = u.data.toList.length + i.toNat by omega, List.drop_append]
  rw [List.drop_eq_nil_of_le (by omega), List.nil_append]
  congr 1
  · omega
  · congr 1
    omega
theorem sec_lo (c : Int) (h : 2 ≤ (sec c).2.2) : 194 ≤ c ∧ 128 ≤ (sec c).1 := by
  unfold sec at h ⊢
  (repeat' split) <;> (repeat' split at h) <;> simp_all <;> omega
theorem bt_list (c : ByteArray) (i : Nat) (h : i < c.data.toList.length) : bt c (i : Int) = (c.data.toList[i].toNat : Int) := by
  unfold bt
  rw [dif_pos (show ((i : Int)).toNat < c.size by rw [Int.toNat_natCast]; exact h)]
  rfl
theorem rune_bytes {c : ByteArray} (h : IsRune c) : (∃ b, c.data.toList = [b] ∧ b.toNat < 128) ∨ (∃ b r, c.data.toList = b :: r ∧ ∀ x ∈ b :: r, 128 ≤ x.toNat) := by
  rcases rune_first h with h1 | ⟨b, r, e, hb, hr⟩
  · exact .inl h1
  · refine .inr ⟨b, r, e, ?_⟩
    obtain ⟨h0, hz⟩ := h
    have hl : c.data.toList.length = c.size := rfl
    rw [e, List.length_cons] at hl
    have hr1 : 1 ≤ r.length := by cases r with | nil => exact absurd rfl hr | cons _ _ => simp
    have hg := runeS_sec c 0 (Int.le_refl _) (by omega)
    rw [h0] at hg
    unfold G at hg
    by_cases c1 : (sec (bt c 0)).2.2 ≤ 1
    · rw [if_pos c1] at hg; omega
    · rw [if_neg c1] at hg
      have hlo := (sec_lo (bt c 0) (by omega)).2
      split at hg
      · rename_i hw
        simp only [Bool.and_eq_true, Bool.or_eq_true, decide_eq_true_eq, W] at hw
        obtain ⟨⟨_, w1, _⟩, w2, w3⟩ := hw
        intro x hx
        obtain ⟨i, hi, rfl⟩ := List.getElem_of_mem hx
        have hbt := bt_list c i (by rw [e]; exact hi)
        simp only [e] at hbt
        rw [List.length_cons] at hi
        have hi4 : i = 0 ∨ i = 1 ∨ i = 2 ∨ i = 3 := by
          have := (sec_range (bt c 0)).2
          omega
        rcases hi4 with rfl | rfl | rfl | rfl
        · show 128 ≤ b.toNat; omega
        · have hbt' : bt c 1 = _ := hbt
          rw [show (0 : Int) + 1 = 1 by omega] at w1
          omega
        · have hbt' : bt c 2 = _ := hbt
          rw [show (0 : Int) + 2 = 2 by omega] at w2
          rcases w2 with w2 | w2 <;> omega
        · have hbt' : bt c 3 = _ := hbt
          rw [show (0 : Int) + 3 = 3 by omega] at w3
          rcases w3 with w3 | w3 <;> omega
      · omega
def parB (l : List UInt8) (q : Bool) : Bool := l.foldl (fun q b => if b = 39 then !q else q) q
theorem parB_app (a b : List UInt8) (q : Bool) : parB (a ++ b) q = parB b (parB a q) := List.foldl_append
theorem parB_none : ∀ (l : List UInt8) (q : Bool), (∀ b ∈ l, b ≠ 39) → parB l q = q
  | [], q, _ => rfl
  | b :: r, q, h => by
    show parB r (if b = 39 then !q else q) = q
    rw [if_neg (h b (by simp)), parB_none r q (fun x hx => h x (by simp [hx]))]
theorem quote_data {c : ByteArray} : quoteC c ↔ c.data.toList = [39] := by unfold quoteC; rw [Lib.toList_data]
theorem rune_no39 {c : ByteArray} (h : IsRune c) (hq : ¬ quoteC c) : ∀ b ∈ c.data.toList, b ≠ 39 := by
  rcases rune_bytes h with ⟨b, e, hb⟩ | ⟨b, r, e, hb⟩
  · intro x hx
    rw [e, List.mem_singleton] at hx
    subst hx
    intro h39
    exact hq (quote_data.mpr (by rw [e, h39]))
  · intro x hx h39
    rw [e] at hx
    have := hb x hx
    rw [h39] at this
    exact absurd this (by decide)
theorem join_cons (c : ByteArray) (cs : List ByteArray) : (joinB (c :: cs)).data.toList = c.data.toList ++ (joinB cs).data.toList := by
  show (c ++ joinB cs).data.toList = _
  rw [ByteArray.data_append, Array.toList_append]
theorem run_par : ∀ (cs : List ByteArray) (sk : Bool) (x : Int) (l : List S53) (t : ByteArray) (s' : Int × List S53 × ByteArray), (∀ c ∈ cs, IsRune c) → (sk = true → nextQ cs = true) → (x = 0 ∨ x = 1) → A.runS cs sk x l t = some s' → decide (s'.1 = 1) = parB (joinB cs).data.toList (if sk = true then !decide (x = 1) else decide (x = 1))
  | [], sk, x, l, t, s', hc, hs, hx, h => by
    obtain rfl := Option.some.inj h
    cases sk with
    | false => rfl
    | true => exact absurd (hs rfl) (by simp [nextQ])
  | c :: cs, true, x, l, t, s', hc, hs, hx, h => by
    have hq : quoteC c := by simpa [nextQ] using hs rfl
    have ih := run_par cs false x l _ s' (fun c hc' => hc c (by simp [hc'])) (by simp) hx h
    rw [join_cons, parB_app, ih, quote_data.mp hq]
    congr 1
    show decide (x = 1) = !(!decide (x = 1))
    rw [Bool.not_not]
  | c :: cs, false, x, l, t, s', hc, hs, hx, h => by
    have hcs : ∀ c ∈ cs, IsRune c := fun c hc' => hc c (by simp [hc'])
    rw [join_cons, parB_app]
    unfold A.runS at h
    by_cases hq : quoteC c
    · rw [if_pos hq] at h
      have e : parB c.data.toList (if false = true then !decide (x = 1) else decide (x = 1)) = !decide (x = 1) := by
        rw [quote_data.mp hq]
        rfl
      rw [e]
      by_cases hn : nextQ cs = true
      · rw [if_pos hn] at h
        exact run_par cs true x l t s' hcs (fun _ => hn) hx h
      · rw [if_neg hn] at h
        have ih := run_par cs false (1 - x) l t s' hcs (by simp) (by omega) h
        rw [ih]
        congr 1
        rcases hx with rfl | rfl <;> decide
    · rw [if_neg hq] at h
      rw [parB_none _ _ (rune_no39 (hc c (by simp)) hq)]
      by_cases h0 : x = 0
      · rw [if_pos h0] at h
        by_cases hk : 0 < kindS c
        · rw [if_pos hk] at h
          split at h
          · exact run_par cs false x _ _ s' hcs (by simp) hx h
          · exact absurd h (by simp)
        · rw [if_neg hk] at h
          split at h
          · exact absurd h (by simp)
          · exact run_par cs false x _ _ s' hcs (by simp) hx h
      · rw [if_neg h0] at h
        exact run_par cs false x _ _ s' hcs (by simp) hx h
theorem parse_par (u : ByteArray) (h : (parseT u).2 = 0) : parB u.data.toList false = false := by
  rw [parseT_eq] at h
  obtain ⟨hw, l, t, hr, _⟩ := A.parse_ok u (L := (A.parseT u).1) (Prod.ext rfl h)
  have hj := join_runes u u.size 0 (Int.le_refl _) (by omega) (by omega) hw
  rw [show u.extract (0 : Int).toNat u.size = u by simp] at hj
  have := run_par _ false 0 [] _ _ (runesAt_runes u u.size 0 (Int.le_refl _) (by omega) (by omega)) (by simp) (.inl rfl) hr
  rw [hj] at this
  simpa using this.symm
def quoF (s st : ByteArray) : Nat → Bool → Int → Bool
  | 0, q, _ => q
  | d + 1, q, p => if bt s p = 39 then quoF s st d (!q) (p + 1) else if (!q && stopB st (bt s p)) = true then q else quoF s st d q (p + 1)
theorem ext_cons (s : ByteArray) {p E : Int} (h0 : 0 ≤ p) (h1 : p < E) (h2 : E ≤ s.size) : ∃ b : UInt8, (b.toNat : Int) = bt s p ∧ (s.extract p.toNat E.toNat).data.toList = b :: (s.extract (p + 1).toNat E.toNat).data.toList := by
  have hl : s.data.toList.length = s.size := rfl
  have hp : p.toNat < s.data.toList.length := by omega
  refine ⟨s.data.toList[p.toNat], ?_, ?_⟩
  · have := bt_list s p.toNat hp
    rw [show ((p.toNat : Nat) : Int) = p by omega] at this
    exact this.symm
  · simp only [ByteArray.data_extract, Array.toList_extract, List.extract_eq_take_drop]
    rw [List.drop_eq_getElem_cons hp, show E.toNat - p.toNat = (E.toNat - (p + 1).toNat) + 1 by omega, List.take_succ_cons, show p.toNat + 1 = (p + 1).toNat by omega]
theorem ext_nil (s : ByteArray) (p : Int) : (s.extract p.toNat p.toNat).data.toList = [] := by
  simp [ByteArray.data_extract, Array.toList_extract, List.extract_eq_take_drop]
theorem quo_par (s st : ByteArray) : ∀ (d : Nat) (q : Bool) (p : Int), 0 ≤ p → p + d = s.size → quoF s st d q p = parB (s.extract p.toNat (stopF s st d q p).toNat).data.toList q
  | 0, q, p, h0, hd => by
    show q = parB (s.extract p.toNat p.toNat).data.toList q
    rw [ext_nil]
    rfl
  | d + 1, q, p, h0, hd => by
    have step : ∀ q', quoF s st d q' (p + 1) = parB (s.extract p.toNat (stopF s st d q' (p + 1)).toNat).data.toList (if bt s p = 39 then !q' else q') := by
      intro q'
      have r := stopF_range s st d q' (p + 1)
      obtain ⟨b, hb, he⟩ := ext_cons s (p := p) (E := stopF s st d q' (p + 1)) h0 (by omega) (by omega)
      rw [quo_par s st d q' (p + 1) (by omega) (by omega), he]
      show _ = parB _ (if b = 39 then !(if bt s p = 39 then !q' else q') else (if bt s p = 39 then !q' else q'))
      by_cases hbt : bt s p = 39
      · have h39 : b = 39 := by
          apply UInt8.toNat_inj.mp
          show b.toNat = 39
          omega
        rw [if_pos hbt, if_pos h39, Bool.not_not]
      · have h39 : b ≠ 39 := by
          intro e
          rw [e] at hb
          exact hbt (by rw [← hb]; rfl)
        rw [if_neg hbt, if_neg h39]
    unfold quoF stopF
    by_cases hbt : bt s p = 39
    · rw [if_pos hbt, if_pos hbt, step, if_pos hbt, Bool.not_not]
    · rw [if_neg hbt, if_neg hbt]
      by_cases hs : (!q && stopB st (bt s p)) = true
      · rw [if_pos hs, if_pos hs, ext_nil]
        rfl
      · rw [if_neg hs, if_neg hs, step, if_neg hbt]
theorem plF_left {a t : ByteArray} (ht : Semi t) : ∀ (d e : Nat) (p : Int) (G : List Int) (z : Int), 0 ≤ p → p + d = a.size → p + e = (a ++ t).size → plF (a ++ t) e p G z = plF a d p G z
  | 0, 0, p, G, z, _, _, _ => rfl
  | 0, e + 1, p, G, z, h0, hd, he => by
    have hs := size_app a t
    obtain rfl : p = a.size := by omega
    unfold plF
    rw [bt_semi ht (by omega)]
    rfl
  | d + 1, 0, p, G, z, h0, hd, he => by
    have hs := size_app a t
    omega
  | d + 1, e + 1, p, G, z, h0, hd, he => by
    have ih := fun G z => plF_left (a := a) ht d e (p + 1) G z (by omega) (by omega) (by omega)
    show (if bt (a ++ t) p = 35 then _ else _) = (if bt a p = 35 then _ else _)
    rw [bt_left a t h0 (by omega), ih, ih, ih]
theorem plF_right (u b : ByteArray) : ∀ (d : Nat) (p : Int) (G : List Int) (z : Int), 0 ≤ p → plF (u ++ b) d (u.size + p) G z = (plF b d p G z).map (fun x => ((u.size : Int) + x.1, x.2))
  | 0, p, G, z, _ => rfl
  | d + 1, p, G, z, h0 => by
    have ih := fun G z => plF_right u b d (p + 1) G z (by omega)
    unfold plF
    rw [bt_right u b h0, Int.add_assoc, ih, ih, ih]
    (repeat' split) <;> rfl
theorem placesF_left {a t : ByteArray} (ht : Semi t) {p : Int} (h0 : 0 ≤ p) (hp : p ≤ a.size) (h : Sb) : placesF (a ++ t) p h = placesF a p h := by
  have hs := size_app a t
  unfold placesF
  rw [plF_left ht ((a.size : Int) - p).toNat _ p [0] 0 h0 (by omega) (by omega)]
theorem placesF_right (u b : ByteArray) {p : Int} (h0 : 0 ≤ p) (h : Sb) : placesF (u ++ b) (u.size + p) h = (placesF b p h).map (fun x => ((u.size : Int) + x.1, x.2)) := by
  have hs := size_app u b
  unfold placesF
  rw [show (((u ++ b).size : Int) - (u.size + p)).toNat = ((b.size : Int) - p).toNat by omega, plF_right u b _ p [0] 0 h0]
  cases plF b ((b.size : Int) - p).toNat p [0] 0 with
  | none => rfl
  | some x =>
    show (groupF x.2.1 x.2.2 h).map _ = ((groupF x.2.1 x.2.2 h).map _).map _
    cases groupF x.2.1 x.2.2 h <;> rfl
theorem fracF_left {a t : ByteArray} (ht : Semi t) {p : Int} (h0 : 0 ≤ p) (hp : p ≤ a.size) (h : Sb) : fracF (a ++ t) p h = fracF a p h := by
  unfold fracF
  rw [bAt_left ht h0 hp (by decide)]
  cases h1 : bAt a p 46 with
  | false => rfl
  | true =>
    have i1 := bAt_in h1
    have r1 := run_range a 48 (p + 1) i1
    rw [runN_left ht (by omega) i1 (by decide), runN_left ht (by omega) r1.2 (by decide)]
theorem fracF_right (u b : ByteArray) {p : Int} (h0 : 0 ≤ p) (hp : p ≤ b.size) (h : Sb) : fracF (u ++ b) (u.size + p) h = (fracF b p h).map (fun x => ((u.size : Int) + x.1, x.2)) := by
  unfold fracF
  rw [bAt_right u b h0]
  cases h1 : bAt b p 46 with
  | false => rfl
  | true =>
    have i1 := bAt_in h1
    have r1 := run_range b 48 (p + 1) i1
    rw [show (u.size : Int) + p + 1 = u.size + (p + 1) by omega, runN_right u b (by omega), show (u.size : Int) + (p + 1) + runN b 48 (p + 1) = u.size + (p + 1 + runN b 48 (p + 1)) by omega, runN_right u b (by omega)]
    rw [if_pos rfl, if_pos rfl]
    split
    · rfl
    · show some _ = some _
      congr 2
      omega
theorem expF_left {a t : ByteArray} (ht : Semi t) {p : Int} (h0 : 0 ≤ p) (hp : p ≤ a.size) (h : Sb) : expF (a ++ t) p h = expF a p h := by
  unfold expF
  rw [expB_left ht h0 hp]
  cases h1 : expB a p with
  | false => rfl
  | true =>
    have h2 := h1
    rw [expB_at a p h0, Bool.and_eq_true] at h2
    have i1 := bAt_in h2.1
    have i2 := next_range (s := a) (p := p + 1) (b := 43) i1
    rw [nextP_left ht (by omega) i1 (by decide), runN_left ht (by omega) i2.2 (by decide), bAt_left ht (by omega) i1 (by decide)]
theorem expF_right (u b : ByteArray) {p : Int} (h0 : 0 ≤ p) (h : Sb) : expF (u ++ b) (u.size + p) h = (u.size + (expF b p h).1, (expF b p h).2) := by
  unfold expF
  rw [expB_right u b h0]
  cases h1 : expB b p with
  | false => rfl
  | true =>
    have i2 : p + 1 ≤ nextP b (p + 1) 43 := by
      unfold nextP
      split <;> omega
    rw [if_pos rfl, if_pos rfl, show (u.size : Int) + p + 1 = u.size + (p + 1) by omega, nextP_right u b (by omega), runN_right u b (by omega), bAt_right u b (by omega)]
    show (_, _) = (_, _)
    congr 1
    omega
theorem frac_range {s : ByteArray} {p : Int} {h : Sb} {x : Int × Sb} (hp : p ≤ s.size) (hx : fracF s p h = some x) : p ≤ x.1 ∧ x.1 ≤ s.size := by
  unfold fracF at hx
  split at hx
  · split at hx
    · exact absurd hx (by simp)
    · rename_i h1 h2
      obtain rfl := Option.some.inj hx
      have hi := bAt_in h1
      have r1 := run_range s 48 (p + 1) hi
      have r2 := run_range s 35 _ r1.2
      exact ⟨by show p ≤ p + 1 + runN s 48 (p + 1) + runN s 35 (p + 1 + runN s 48 (p + 1)); omega, r2.2⟩
  · obtain rfl := Option.some.inj hx
    exact ⟨Int.le_refl _, hp⟩
theorem tailF_left {a t : ByteArray} (ht : Semi t) {p : Int} (h0 : 0 ≤ p) (hp : p ≤ a.size) (h : Sb) : tailF (a ++ t) p h = tailF a p h := by
  unfold tailF
  rw [fracF_left ht h0 hp]
  cases hx : fracF a p h with
  | none => rfl
  | some x =>
    have r := frac_range hp hx
    show some (expF (a ++ t) x.1 x.2) = some (expF a x.1 x.2)
    rw [expF_left ht (by omega) r.2]
theorem tailF_right (u b : ByteArray) {p : Int} (h0 : 0 ≤ p) (hp : p ≤ b.size) (h : Sb) : tailF (u ++ b) (u.size + p) h = (tailF b p h).map (fun x => ((u.size : Int) + x.1, x.2)) := by
  unfold tailF
  rw [fracF_right u b h0 hp]
  cases hx : fracF b p h with
  | none => rfl
  | some x =>
    have r := frac_range hp hx
    show some (expF (u ++ b) (u.size + x.1) x.2) = some _
    rw [expF_right u b (by omega)]
theorem runeS_left (a t : ByteArray) {p : Int} (h : runeS a p ≠ 0) : runeS (a ++ t) p = runeS a p := by
  rw [runeS_eq] at h ⊢
  exact runeS_app_left a t p h
theorem runeS_right (u b : ByteArray) {p : Int} (h0 : 0 ≤ p) : runeS (u ++ b) (u.size + p) = runeS b p := by
  rw [runeS_eq]
  by_cases h : p < b.size
  · exact runeS_app_right u b p h0 h
  · rw [runeS_out b p (by omega), runeS_out (u ++ b) (u.size + p) (by rw [size_app]; omega)]
theorem fillF_left {a t : ByteArray} (ht : Semi t) {p : Int} (h0 : 0 ≤ p) (hp : p ≤ a.size) {h : Sb} {k : Int} {x : Int × Sb} (hx : fillF a p h k = some x) : fillF (a ++ t) p h k = some x := by
  unfold fillF at hx ⊢
  rw [bAt_left ht h0 hp (by decide)]
  cases h1 : bAt a p 42 with
  | false => rw [h1] at hx; exact hx
  | true =>
    rw [h1, if_pos rfl] at hx
    rw [if_pos rfl]
    split at hx
    · exact absurd hx (by simp)
    · rename_i h2
      have hz : runeS a (p + 1) ≠ 0 := fun e => h2 (by rw [e]; rfl)
      have hr := runeS_in a (p + 1) hz
      rw [runeS_left a t hz, if_neg h2, ext_left a t (by omega)]
      exact hx
theorem fillF_right (u b : ByteArray) {p : Int} (h0 : 0 ≤ p) (h : Sb) (k : Int) : fillF (u ++ b) (u.size + p) h k = (fillF b p h k).map (fun x => ((u.size : Int) + x.1, x.2)) := by
  unfold fillF
  rw [bAt_right u b h0]
  cases h1 : bAt b p 42 with
  | false => rfl
  | true =>
    rw [if_pos rfl, if_pos rfl, show (u.size : Int) + p + 1 = u.size + (p + 1) by omega, runeS_right u b (by omega)]
    by_cases h2 : (runeS b (p + 1) == 0 || !h.pad.toList.isEmpty) = true
    · rw [if_pos h2, if_pos h2]; rfl
    · have hz : runeS b (p + 1) ≠ 0 := fun e => h2 (by rw [e]; rfl)
      have hr := runeS_in b (p + 1) hz
      rw [if_neg h2, if_neg h2, show (u.size : Int) + (p + 1) + runeS b (p + 1) = u.size + (p + 1 + runeS b (p + 1)) by omega, ext_right u b (by omega) (by omega)]
      rfl
theorem fillIf_left {a t : ByteArray} (ht : Semi t) {l : List S53} {p : Int} (h0 : 0 ≤ p) (hp : p ≤ a.size) {h : Sb} {k : Int} {x : Int × Sb} (hx : fillIf l a p h k = some x) : fillIf l (a ++ t) p h k = some x := by
  unfold fillIf at hx ⊢
  split
  · rename_i hl; rw [if_pos hl] at hx; exact hx
  · rename_i hl; rw [if_neg hl] at hx; exact fillF_left ht h0 hp hx
theorem fillIf_right (u b : ByteArray) (l : List S53) {p : Int} (h0 : 0 ≤ p) (h : Sb) (k : Int) : fillIf l (u ++ b) (u.size + p) h k = (fillIf l b p h k).map (fun x => ((u.size : Int) + x.1, x.2)) := by
  unfold fillIf
  split
  · rfl
  · exact fillF_right u b h0 h k
theorem stopF_left {a t st : ByteArray} (ht : Semi t) (hst : stopB st 59 = true) : ∀ (d e : Nat) (q : Bool) (p : Int), 0 ≤ p → p + d = a.size → p + e = (a ++ t).size → quoF a st d q p = false → stopF (a ++ t) st e q p = stopF a st d q p
  | 0, 0, q, p, _, _, _, _ => rfl
  | 0, e + 1, q, p, h0, hd, he, hq => by
    have hs := size_app a t
    obtain rfl : p = a.size := by omega
    have hq' : q = false := hq
    subst hq'
    unfold stopF
    rw [bt_semi ht (by omega), hst]
    rfl
  | d + 1, 0, q, p, h0, hd, he, hq => by
    have hs := size_app a t
    omega
  | d + 1, e + 1, q, p, h0, hd, he, hq => by
    unfold stopF
    unfold quoF at hq
    rw [bt_left a t h0 (by omega)]
    by_cases hbt : bt a p = 39
    · rw [if_pos hbt] at hq
      rw [if_pos hbt, if_pos hbt]
      exact stopF_left ht hst d e _ (p + 1) (by omega) (by omega) (by omega) hq
    · rw [if_neg hbt] at hq
      rw [if_neg hbt, if_neg hbt]
      by_cases hs : (!q && stopB st (bt a p)) = true
      · rw [if_pos hs, if_pos hs]
      · rw [if_neg hs] at hq
        rw [if_neg hs, if_neg hs]
        exact stopF_left ht hst d e _ (p + 1) (by omega) (by omega) (by omega) hq
theorem stopF_right (u b st : ByteArray) : ∀ (d : Nat) (q : Bool) (p : Int), 0 ≤ p → stopF (u ++ b) st d q (u.size + p) = u.size + stopF b st d q p
  | 0, q, p, h0 => rfl
  | d + 1, q, p, h0 => by
    have ih := fun q => stopF_right u b st d q (p + 1) (by omega)
    unfold stopF
    rw [bt_right u b h0, Int.add_assoc, ih, ih]
    (repeat' split) <;> rfl
theorem stopN_right (u b st : ByteArray) {p : Int} (h0 : 0 ≤ p) : stopN (u ++ b) st (u.size + p) = u.size + stopN b st p := by
  have hs := size_app u b
  unfold stopN
  rw [show (((u ++ b).size : Int) - (u.size + p)).toNat = ((b.size : Int) - p).toNat by omega]
  exact stopF_right u b st _ false p h0
theorem stopN_left {a t st : ByteArray} (ht : Semi t) (hst : stopB st 59 = true) {p : Int} (h0 : 0 ≤ p) (hp : p ≤ a.size) (hk : (tokT a st p).2 = 0) : stopN (a ++ t) st p = stopN a st p := by
  have hs := size_app a t
  unfold stopN
  refine stopF_left ht hst _ _ false p h0 (by omega) (by omega) ?_
  rw [quo_par a st _ false p h0 (by omega)]
  exact parse_par _ hk
theorem tokT_left {a t st : ByteArray} (ht : Semi t) (hst : stopB st 59 = true) {p : Int} (h0 : 0 ≤ p) (hp : p ≤ a.size) (hk : (tokT a st p).2 = 0) : tokT (a ++ t) st p = tokT a st p := by
  have r := stop_range (s := a) (st := st) h0 hp
  unfold tokT
  rw [stopN_left ht hst h0 hp hk, ext_left a t (by omega)]
theorem tokT_right (u b st : ByteArray) {p : Int} (h0 : 0 ≤ p) (hp : p ≤ b.size) : tokT (u ++ b) st (u.size + p) = tokT b st p := by
  have r := stop_range (s := b) (st := st) h0 hp
  unfold tokT
  rw [stopN_right u b st h0, ext_right u b h0 r.1]
theorem semi1 : stopB stops1 59 = true ∧ stopB stops2 59 = true := ⟨by decide, by decide⟩
def shS (n : Int) (y : St) : St := ⟨n + y.p, y.h, y.n⟩
theorem step_left {a t : ByteArray} (ht : Semi t) {i : Nat} (hi : i ≤ 7) {y y' : St} (h0 : 0 ≤ y.p) (hp : y.p ≤ a.size) (h : stepS a i y = some y') : stepS (a ++ t) i y = some y' := by
  have hc : i = 0 ∨ i = 1 ∨ i = 2 ∨ i = 3 ∨ i = 4 ∨ i = 5 ∨ i = 6 ∨ i = 7 := by omega
  rcases hc with rfl | rfl | rfl | rfl | rfl | rfl | rfl | rfl
  · obtain ⟨x, hx, rfl⟩ := Option.map_eq_some_iff.mp (show (fillF a y.p y.h 0).map _ = _ from h)
    show (fillF (a ++ t) y.p y.h 0).map _ = _
    rw [fillF_left ht h0 hp hx]; rfl
  · have he : (if (tokT a stops1 y.p).2 = 0 then some (⟨stopN a stops1 y.p, {y.h with p := (tokT a stops1 y.p).1}, y.n⟩ : St) else none) = some y' := h
    split at he
    · rename_i hk
      show (if (tokT (a ++ t) stops1 y.p).2 = 0 then some (⟨stopN (a ++ t) stops1 y.p, {y.h with p := (tokT (a ++ t) stops1 y.p).1}, y.n⟩ : St) else none) = some y'
      rw [tokT_left ht semi1.1 h0 hp hk, stopN_left ht semi1.1 h0 hp hk, if_pos hk]
      exact he
    · exact absurd he (by simp)
  · obtain ⟨x, hx, rfl⟩ := Option.map_eq_some_iff.mp (show (fillIf y.h.p a y.p y.h 1).map _ = _ from h)
    show (fillIf y.h.p (a ++ t) y.p y.h 1).map _ = _
    rw [fillIf_left ht h0 hp hx]; rfl
  · show (placesF (a ++ t) y.p y.h).map _ = _
    rw [placesF_left ht h0 hp]; exact h
  · show (tailF (a ++ t) y.p y.h).map _ = _
    rw [tailF_left ht h0 hp]; exact h
  · obtain ⟨x, hx, rfl⟩ := Option.map_eq_some_iff.mp (show (fillF a y.p y.h 2).map _ = _ from h)
    show (fillF (a ++ t) y.p y.h 2).map _ = _
    rw [fillF_left ht h0 hp hx]; rfl
  · have he : (if (tokT a stops2 y.p).2 = 0 then some (⟨stopN a stops2 y.p, {y.h with s := (tokT a stops2 y.p).1}, y.n⟩ : St) else none) = some y' := h
    split at he
    · rename_i hk
      show (if (tokT (a ++ t) stops2 y.p).2 = 0 then some (⟨stopN (a ++ t) stops2 y.p, {y.h with s := (tokT (a ++ t) stops2 y.p).1}, y.n⟩ : St) else none) = some y'
      rw [tokT_left ht semi1.2 h0 hp hk, stopN_left ht semi1.2 h0 hp hk, if_pos hk]
      exact he
    · exact absurd he (by simp)
  · obtain ⟨x, hx, rfl⟩ := Option.map_eq_some_iff.mp (show (fillIf y.h.s a y.p y.h 3).map _ = _ from h)
    show (fillIf y.h.s (a ++ t) y.p y.h 3).map _ = _
    rw [fillIf_left ht h0 hp hx]; rfl
theorem step_right (u b : ByteArray) {i : Nat} (hi : i ≤ 7) (y : St) (h0 : 0 ≤ y.p) (hp : y.p ≤ b.size) : stepS (u ++ b) i (shS u.size y) = (stepS b i y).map (shS u.size) := by
  have hc : i = 0 ∨ i = 1 ∨ i = 2 ∨ i = 3 ∨ i = 4 ∨ i = 5 ∨ i = 6 ∨ i = 7 := by omega
  rcases hc with rfl | rfl | rfl | rfl | rfl | rfl | rfl | rfl
  · show (fillF (u ++ b) (u.size + y.p) y.h 0).map _ = ((fillF b y.p y.h 0).map _).map _
    rw [fillF_right u b h0]
    cases fillF b y.p y.h 0 <;> rfl
  · show (if (tokT (u ++ b) stops1 (u.size + y.p)).2 = 0 then some (⟨stopN (u ++ b) stops1 (u.size + y.p), {y.h with p := (tokT (u ++ b) stops1 (u.size + y.p)).1}, y.n⟩ : St) else none) = (if (tokT b stops1 y.p).2 = 0 then some (⟨stopN b stops1 y.p, {y.h with p := (tokT b stops1 y.p).1}, y.n⟩ : St) else none).map _
    rw [tokT_right u b _ h0 hp, stopN_right u b _ h0]
    split <;> rfl
  · show (fillIf y.h.p (u ++ b) (u.size + y.p) y.h 1).map _ = ((fillIf y.h.p b y.p y.h 1).map _).map _
    rw [fillIf_right u b _ h0]
    cases fillIf y.h.p b y.p y.h 1 <;> rfl
  · show (placesF (u ++ b) (u.size + y.p) y.h).map _ = ((placesF b y.p y.h).map _).map _
    rw [placesF_right u b h0]
    cases placesF b y.p y.h with
    | none => rfl
    | some x =>
      show some (⟨u.size + x.1, x.2, u.size + x.1 - (u.size + y.p)⟩ : St) = some (⟨u.size + x.1, x.2, x.1 - y.p⟩ : St)
      rw [show (u.size : Int) + x.1 - (u.size + y.p) = x.1 - y.p by omega]
  · show (tailF (u ++ b) (u.size + y.p) y.h).map _ = ((tailF b y.p y.h).map _).map _
    rw [tailF_right u b h0 hp]
    cases tailF b y.p y.h with
    | none => rfl
    | some x =>
      show some (⟨u.size + x.1, x.2, y.n + (u.size + x.1 - (u.size + y.p))⟩ : St) = some (⟨u.size + x.1, x.2, y.n + (x.1 - y.p)⟩ : St)
      rw [show (u.size : Int) + x.1 - (u.size + y.p) = x.1 - y.p by omega]
  · show (fillF (u ++ b) (u.size + y.p) y.h 2).map _ = ((fillF b y.p y.h 2).map _).map _
    rw [fillF_right u b h0]
    cases fillF b y.p y.h 2 <;> rfl
  · show (if (tokT (u ++ b) stops2 (u.size + y.p)).2 = 0 then some (⟨stopN (u ++ b) stops2 (u.size + y.p), {y.h with s := (tokT (u ++ b) stops2 (u.size + y.p)).1}, y.n⟩ : St) else none) = (if (tokT b stops2 y.p).2 = 0 then some (⟨stopN b stops2 y.p, {y.h with s := (tokT b stops2 y.p).1}, y.n⟩ : St) else none).map _
    rw [tokT_right u b _ h0 hp, stopN_right u b _ h0]
    split <;> rfl
  · show (fillIf y.h.s (u ++ b) (u.size + y.p) y.h 3).map _ = ((fillIf y.h.s b y.p y.h 3).map _).map _
    rw [fillIf_right u b _ h0]
    cases fillIf y.h.s b y.p y.h 3 <;> rfl
theorem step_range {s : ByteArray} {i : Nat} (hi : i ≤ 7) {y y' : St} (h0 : 0 ≤ y.p) (hp : y.p ≤ s.size) (h : stepS s i y = some y') : 0 ≤ y'.p ∧ y'.p ≤ s.size := by
  have hc : i = 0 ∨ i = 1 ∨ i = 2 ∨ i = 3 ∨ i = 4 ∨ i = 5 ∨ i = 6 ∨ i = 7 := by omega
  rcases hc with rfl | rfl | rfl | rfl | rfl | rfl | rfl | rfl
  · obtain ⟨x, hx, rfl⟩ := Option.map_eq_some_iff.mp (show (fillF s y.p y.h 0).map _ = _ from h)
    have r := fillF_range h0 hp hx
    exact ⟨by show 0 ≤ x.1; omega, r.2.1⟩
  · have he : (if (tokT s stops1 y.p).2 = 0 then some (⟨stopN s stops1 y.p, {y.h with p := (tokT s stops1 y.p).1}, y.n⟩ : St) else none) = some y' := h
    split at he
    · obtain rfl := Option.some.inj he
      have r := stop_range (st := stops1) h0 hp
      exact ⟨by show 0 ≤ stopN s stops1 y.p; omega, r.2⟩
    · exact absurd he (by simp)
  · obtain ⟨x, hx, rfl⟩ := Option.map_eq_some_iff.mp (show (fillIf y.h.p s y.p y.h 1).map _ = _ from h)
    have r := fillIf_range h0 hp hx
    exact ⟨by show 0 ≤ x.1; omega, r.2.1⟩
  · obtain ⟨x, hx, rfl⟩ := Option.map_eq_some_iff.mp (show (placesF s y.p y.h).map _ = _ from h)
    have r := placesF_range h0 hp hx
    exact ⟨by show 0 ≤ x.1; omega, r.2.1⟩
  · obtain ⟨x, hx, rfl⟩ := Option.map_eq_some_iff.mp (show (tailF s y.p y.h).map _ = _ from h)
    have r := tailF_range h0 hp hx
    exact ⟨by show 0 ≤ x.1; omega, r.2.1⟩
  · obtain ⟨x, hx, rfl⟩ := Option.map_eq_some_iff.mp (show (fillF s y.p y.h 2).map _ = _ from h)
    have r := fillF_range h0 hp hx
    exact ⟨by show 0 ≤ x.1; omega, r.2.1⟩
  · have he : (if (tokT s stops2 y.p).2 = 0 then some (⟨stopN s stops2 y.p, {y.h with s := (tokT s stops2 y.p).1}, y.n⟩ : St) else none) = some y' := h
    split at he
    · obtain rfl := Option.some.inj he
      have r := stop_range (st := stops2) h0 hp
      exact ⟨by show 0 ≤ stopN s stops2 y.p; omega, r.2⟩
    · exact absurd he (by simp)
  · obtain ⟨x, hx, rfl⟩ := Option.map_eq_some_iff.mp (show (fillIf y.h.s s y.p y.h 3).map _ = _ from h)
    have r := fillIf_range h0 hp hx
    exact ⟨by show 0 ≤ x.1; omega, r.2.1⟩
theorem run_left {a t : ByteArray} (ht : Semi t) : ∀ (k i : Nat) (y y' : St), i + k = 8 → 0 ≤ y.p → y.p ≤ a.size → runS a (List.range' i k) y = some y' → runS (a ++ t) (List.range' i k) y = some y'
  | 0, i, y, y', _, _, _, h => h
  | k + 1, i, y, y', hi, h0, hp, h => by
    obtain ⟨u, hu, h2⟩ := Option.bind_eq_some_iff.mp (show (stepS a i y).bind (runS a (List.range' (i + 1) k)) = some y' from h)
    have r := step_range (by omega) h0 hp hu
    show (stepS (a ++ t) i y).bind (runS (a ++ t) (List.range' (i + 1) k)) = some y'
    rw [step_left ht (by omega) h0 hp hu]
    exact run_left ht k (i + 1) u y' (by omega) r.1 r.2 h2
theorem run_right (u b : ByteArray) : ∀ (k i : Nat) (y : St), i + k = 8 → 0 ≤ y.p → y.p ≤ b.size → runS (u ++ b) (List.range' i k) (shS u.size y) = (runS b (List.range' i k) y).map (shS u.size)
  | 0, i, y, _, _, _ => rfl
  | k + 1, i, y, hi, h0, hp => by
    show (stepS (u ++ b) i (shS u.size y)).bind (runS (u ++ b) (List.range' (i + 1) k)) = ((stepS b i y).bind (runS b (List.range' (i + 1) k))).map (shS u.size)
    rw [step_right u b (by omega) y h0 hp]
    cases hu : stepS b i y with
    | none => rfl
    | some z =>
      have r := step_range (by omega) h0 hp hu
      show runS (u ++ b) (List.range' (i + 1) k) (shS u.size z) = (runS b (List.range' (i + 1) k) z).map (shS u.size)
      exact run_right u b k (i + 1) z (by omega) r.1 r.2
theorem scan_left {a t : ByteArray} (ht : Semi t) {p : Int} (h0 : 0 ≤ p) (hp : p ≤ a.size) {x : Int × Sb} (h : scanA a p = some x) : scanA (a ++ t) p = some x := by
  obtain ⟨y, hy, rfl⟩ := Option.map_eq_some_iff.mp (show (runS a (stepsFrom 0) ⟨p, zeroSb2, 0⟩).map _ = _ from h)
  show (runS (a ++ t) (stepsFrom 0) ⟨p, zeroSb2, 0⟩).map _ = _
  rw [show runS (a ++ t) (stepsFrom 0) ⟨p, zeroSb2, 0⟩ = some y from run_left ht 8 0 _ y rfl h0 hp hy]
  rfl
theorem scan_right (u b : ByteArray) {p : Int} (h0 : 0 ≤ p) (hp : p ≤ b.size) : scanA (u ++ b) (u.size + p) = (scanA b p).map (fun x => ((u.size : Int) + x.1, x.2)) := by
  show (runS (u ++ b) (stepsFrom 0) (shS u.size ⟨p, zeroSb2, 0⟩)).map _ = ((runS b (stepsFrom 0) ⟨p, zeroSb2, 0⟩).map _).map _
  rw [show runS (u ++ b) (stepsFrom 0) (shS u.size ⟨p, zeroSb2, 0⟩) = _ from run_right u b 8 0 ⟨p, zeroSb2, 0⟩ rfl h0 hp]
  show ((runS b (stepsFrom 0) ⟨p, zeroSb2, 0⟩).map (shS u.size)).map _ = _
  cases runS b (stepsFrom 0) ⟨p, zeroSb2, 0⟩ with
  | none => rfl
  | some y => rfl
theorem scan_range {s : ByteArray} {p : Int} (h0 : 0 ≤ p) (hp : p ≤ s.size) {x : Int × Sb} (h : scanA s p = some x) : 0 ≤ x.1 ∧ x.1 ≤ s.size := by
  obtain ⟨y, hy, rfl⟩ := Option.map_eq_some_iff.mp (show (runS s (stepsFrom 0) ⟨p, zeroSb2, 0⟩).map _ = _ from h)
  have go : ∀ (k i : Nat) (z z' : St), i + k = 8 → 0 ≤ z.p → z.p ≤ s.size → runS s (List.range' i k) z = some z' → 0 ≤ z'.p ∧ z'.p ≤ s.size := by
    intro k
    induction k with
    | zero => intro i z z' _ a b c; obtain rfl := Option.some.inj c; exact ⟨a, b⟩
    | succ k ih =>
      intro i z z' hi a b c
      obtain ⟨u, hu, h2⟩ := Option.bind_eq_some_iff.mp (show (stepS s i z).bind (runS s (List.range' (i + 1) k)) = some z' from c)
      have r := step_range (by omega) a b hu
      exact ih (i + 1) u z' (by omega) r.1 r.2 h2
  exact go 8 0 _ y rfl h0 hp hy
def clean : List UInt8 → Bool → Option Bool
  | [], q => some q
  | b :: r, q => if b = 39 then clean r (!q) else if (!q && decide (b ∈ LETTERS)) = true then none else clean r q
theorem clean_app : ∀ (a b : List UInt8) (q : Bool), clean (a ++ b) q = (clean a q).bind (clean b)
  | [], b, q => rfl
  | x :: a, b, q => by
    show (if x = 39 then clean (a ++ b) (!q) else if (!q && decide (x ∈ LETTERS)) = true then none else clean (a ++ b) q) = (if x = 39 then clean a (!q) else if (!q && decide (x ∈ LETTERS)) = true then none else clean a q).bind (clean b)
    rw [clean_app a b, clean_app a b]
    (repeat' split) <;> rfl
theorem clean_none : ∀ (l : List UInt8) (q : Bool), (∀ b ∈ l, b ≠ 39) → (q = true ∨ ∀ b ∈ l, b ∉ LETTERS) → clean l q = some q
  | [], q, _, _ => rfl
  | b :: r, q, h, hl => by
    have hr := clean_none r q (fun x hx => h x (by simp [hx])) (hl.imp id (fun hl x hx => hl x (by simp [hx])))
    unfold clean
    rw [if_neg (h b (by simp)), hr]
    split
    · rename_i hc
      simp only [Bool.and_eq_true, decide_eq_true_eq] at hc
      rcases hl with rfl | hl
      · exact absurd hc.1 (by decide)
      · exact absurd hc.2 (hl b (by simp))
    · rfl
theorem contains_one (b : UInt8) : Lib.contains LETTERS [b] = decide (b ∈ LETTERS) := by
  have h : ∀ n : Fin 256, Lib.contains LETTERS [UInt8.ofNat n] = decide (UInt8.ofNat n ∈ LETTERS) := by decide +kernel
  have := h ⟨b.toNat, b.toNat_lt⟩
  simpa only [UInt8.ofNat_toNat] using this
theorem high_letters {b : UInt8} (h : 128 ≤ b.toNat) : b ∉ LETTERS := by
  intro hm
  have : ∀ x ∈ LETTERS, x.toNat < 128 := by decide
  have := this b hm
  omega
theorem rune_letters {c : ByteArray} (h : IsRune c) (hl : letB c = false) : ∀ b ∈ c.data.toList, b ∉ LETTERS := by
  rcases rune_bytes h with ⟨b, e, hb⟩ | ⟨b, r, e, hb⟩
  · intro x hx
    rw [e, List.mem_singleton] at hx
    subst hx
    have hc : Lib.contains LETTERS c.data.toList = false := hl
    rw [e, contains_one] at hc
    exact of_decide_eq_false hc
  · intro x hx
    rw [e] at hx
    exact high_letters (hb x hx)
theorem rune_clean {c : ByteArray} {q : Bool} (h : IsRune c) (hq : ¬ quoteC c) (hl : q = true ∨ letB c = false) : clean c.data.toList q = some q :=
  clean_none _ q (rune_no39 h hq) (hl.imp id (fun hl => rune_letters h hl))
theorem Qc_data : Qc.data.toList = [39] := rfl
theorem dbl_clean : ∀ (raw : List ByteArray) (q : Bool), (∀ c ∈ raw, IsRune c) → (q = true ∨ ∀ c ∈ raw, quoteC c) → clean (joinB (dbl raw)).data.toList q = some q
  | [], q, _, _ => rfl
  | c :: cs, q, hr, hq => by
    have ih := dbl_clean cs q (fun x hx => hr x (by simp [hx])) (hq.imp id (fun h x hx => h x (by simp [hx])))
    unfold dbl
    by_cases h : quoteC c
    · rw [if_pos h, join_cons, join_cons, clean_app, Qc_data]
      show clean (joinB (dbl cs)).data.toList (!(!q)) = some q
      rw [Bool.not_not]
      exact ih
    · rw [if_neg h, join_cons, clean_app, rune_clean (hr c (by simp)) h (.inl (by
        rcases hq with hq | hq
        · exact hq
        · exact absurd (hq c (by simp)) h))]
      exact ih
theorem wrap_clean (raw : List ByteArray) (bare : Bool) (hr : ∀ c ∈ raw, IsRune c) (h : Rows_ raw bare) : clean (joinB (wrapR raw bare)).data.toList false = some false := by
  unfold wrapR
  cases bare with
  | true =>
    rw [if_pos rfl]
    exact dbl_clean raw false hr (.inr (by unfold Rows_ at h; simpa using h))
  | false =>
    rw [if_neg (by decide), join_cons, clean_app, Qc_data]
    show clean (joinB (dbl raw ++ [Qc])).data.toList true = some false
    rw [join_app, ByteArray.data_append, Array.toList_append, clean_app, dbl_clean raw true hr (.inl rfl), join_one]
    rfl
theorem quote_clean : ∀ (cs raw : List ByteArray) (bare : Bool), (∀ c ∈ cs, IsRune c) → (∀ c ∈ raw, IsRune c) → Rows_ raw bare → clean (joinB (quoteR cs raw bare)).data.toList false = some false
  | [], raw, bare, hc, hr, h => wrap_clean raw bare hr h
  | c :: cs, raw, bare, hc, hr, h => by
    have hcs : ∀ c ∈ cs, IsRune c := fun x hx => hc x (by simp [hx])
    have hr2 : ∀ x ∈ raw ++ [c], IsRune x := fun x hx => by
      rcases List.mem_append.mp hx with hx | hx
      · exact hr x hx
      · rw [List.mem_singleton] at hx; subst hx; exact hc x (by simp)
    unfold quoteR
    by_cases hq : quoteC c
    · rw [if_pos hq]
      refine quote_clean cs _ bare hcs hr2 ?_
      exact aP17
    · rw [if_neg hq]
      by_cases hk : (decide (0 < kindS c) || letB c) = true
      · rw [if_pos hk]
        refine quote_clean cs _ false hcs hr2 ?_
        unfold Rows_
        simp only [Bool.false_eq_true, if_false]
        exact ⟨c, by simp, hq⟩
      · rw [if_neg hk]
        have hl : letB c = false := by
          cases hb : letB c with
          | false => rfl
          | true => exact absurd (by rw [hb, Bool.or_true]) hk
        rw [join_app, ByteArray.data_append, Array.toList_append, clean_app, wrap_clean raw bare hr h, join_cons]
        show clean (c.data.toList ++ (joinB (quoteR cs [] true)).data.toList) false = some false
        rw [clean_app, rune_clean (hc c (by simp)) hq (.inr hl)]
        refine quote_clean cs [] true hcs (fun x hx => by cases hx) ?_
        unfold Rows_
        simp
theorem reps_clean (n : Nat) : clean (joinB (List.replicate n currC)).data.toList false = some false := by
  induction n with
  | zero => rfl
  | succ n ih =>
    rw [List.replicate_succ, join_cons, clean_app, show clean currC.data.toList false = some false by decide +kernel]
    exact ih
theorem sign_clean (k : Int) : clean (signC k).data.toList false = some false := by
  unfold signC
  (repeat' split) <;> decide +kernel
theorem tok_clean (t : S53) : clean (joinB (tokR t)).data.toList false = some false := by
  unfold tokR
  by_cases h0 : t.f0 = 0
  · rw [if_pos h0]
    exact quote_clean _ [] true (runesAt_runes t.f2 t.f2.size 0 (Int.le_refl _) (by omega) (by omega)) (fun x hx => by cases hx) (by unfold Rows_; simp)
  · rw [if_neg h0]
    by_cases h5 : t.f0 = 5
    · rw [if_pos h5]; exact reps_clean _
    · rw [if_neg h5, join_one]; exact sign_clean _
theorem all_clean : ∀ l : List S53, clean (joinB (allR l)).data.toList false = some false
  | [] => rfl
  | t :: r => by
    rw [all_cons, join_app, ByteArray.data_append, Array.toList_append, clean_app, tok_clean]
    exact all_clean r
theorem print_clean (l : List S53) : clean (printT l).1.data.toList false = some false := by
  rw [printT_eq]
  unfold A.printT
  split
  · exact all_clean l
  · rfl
theorem parse_print (l : List S53) (h : checkS l = 0) : parseT (printT l).1 = (l, 0) := by
  rw [checkS_eq] at h
  rw [printT_eq, parseT_eq]
  unfold A.printT
  rw [if_pos h]
  exact parse_all l h
theorem print_nil : (printT []).1 = ⟨#[]⟩ := by
  rw [printT_eq]
  decide +kernel
theorem print_ne {l : List S53} (h : checkS l = 0) (hn : l ≠ []) : (printT l).1.data.toList ≠ [] := by
  intro e
  have h1 := parse_print l h
  have h2 := parse_print [] check_nil
  rw [print_nil] at h2
  rw [bytes_of _ _ e] at h1
  have : (l, (0 : Int)) = ([], 0) := h1.symm.trans h2
  exact hn (Prod.mk.inj this).1
structure Dr (s : ByteArray) (p : Int) (l : List UInt8) : Prop where
  p0 : 0 ≤ p
  p1 : p ≤ s.size
  eq : s.data.toList.drop p.toNat = l
namespace Dr
variable {s : ByteArray} {p : Int} {l a r : List UInt8} {b : UInt8}
theorem len (h : Dr s p l) : (l.length : Int) = s.size - p := by
  have hl : s.data.toList.length = s.size := rfl
  have := h.p0
  have := h.p1
  rw [← h.eq, List.length_drop]
  omega
theorem app (h : Dr s p (a ++ r)) : Dr s (p + a.length) r := by
  have hl := h.len
  rw [List.length_append] at hl
  have := h.p0
  refine ⟨by omega, by omega, ?_⟩
  rw [show (p + a.length).toNat = p.toNat + a.length by omega, ← List.drop_drop, h.eq, List.drop_left]
theorem next (h : Dr s p (b :: r)) : Dr s (p + 1) r := app (a := [b]) h
theorem lt (h : Dr s p (b :: r)) : p < s.size := by
  have := h.len
  rw [List.length_cons] at this
  omega
theorem bt (h : Dr s p (b :: r)) : bt s p = b.toNat := by
  have h0 := h.p0
  have hl : s.data.toList.length = s.size := rfl
  have hp : p.toNat < s.data.toList.length := by have := h.lt; omega
  have h1 := bt_list s p.toNat hp
  rw [show ((p.toNat : Nat) : Int) = p by omega] at h1
  have h2 := h.eq
  rw [List.drop_eq_getElem_cons hp] at h2
  rw [h1, (List.cons.inj h2).1]
theorem at_ (h : Dr s p (b :: r)) (c : UInt8) : bAt s p c.toNat = decide (b = c) := by
  unfold bAt
  rw [decide_eq_true h.lt, Bool.true_and, h.bt]
  by_cases e : b = c
  · subst e; simp
  · rw [decide_eq_false e, beq_eq_false_iff_ne]
    intro e2
    exact e (UInt8.toNat_inj.mp (by omega))
theorem at_nil (h : Dr s p []) (c : Int) : bAt s p c = false := by
  have := h.len
  simp only [List.length_nil] at this
  unfold bAt
  rw [decide_eq_false (by omega)]
  rfl
theorem at_no (h : Dr s p l) (c : UInt8) (hn : ∀ b r, l = b :: r → b ≠ c) : bAt s p c.toNat = false := by
  cases l with
  | nil => exact h.at_nil _
  | cons b r => rw [h.at_ c, decide_eq_false (hn b r rfl)]
theorem ext (h : Dr s p (a ++ r)) : s.extract p.toNat (p + a.length).toNat = ⟨a.toArray⟩ := by
  apply bytes_of
  have := h.p0
  rw [ByteArray.data_extract, Array.toList_extract, List.extract_eq_take_drop, h.eq, show (p + a.length).toNat - p.toNat = a.length by omega, List.take_left]
theorem start (s : ByteArray) : Dr s 0 s.data.toList := ⟨Int.le_refl _, by omega, rfl⟩
end Dr
theorem runN_reps {s : ByteArray} (b : UInt8) : ∀ (k : Nat) (p : Int) (r : List UInt8), Dr s p (List.replicate k b ++ r) → (∀ c q, r = c :: q → c ≠ b) → runN s b.toNat p = k
  | 0, p, r, h, hr => by
    rw [runN_step, Dr.at_no h b hr]
    rfl
  | k + 1, p, r, h, hr => by
    rw [List.replicate_succ, List.cons_append] at h
    rw [runN_step, h.at_ b, decide_eq_true rfl, if_pos rfl, runN_reps b k (p + 1) r h.next hr]
    omega
def PL (s : ByteArray) (p : Int) (G : List Int) (z : Int) : Option (Int × List Int × Int) := plF s ((s.size : Int) - p).toNat p G z
theorem last_app (P : List Int) (g : Int) : lastG (P ++ [g]) = g := by
  unfold lastG rd
  rw [List.length_append, show ((P.length + [g].length : Nat) : Int) - 1 = (P.length : Int) by simp, Int.toNat_natCast]
  simp [List.getD]
theorem bump_app (P : List Int) (g : Int) : bump (P ++ [g]) = P ++ [g + 1] := by
  unfold bump
  rw [last_app, List.length_append, show P.length + [g].length - 1 = P.length by simp]
  simp [List.set_append]
theorem PL_step {s : ByteArray} {p : Int} {b : UInt8} {r : List UInt8} (h : Dr s p (b :: r)) (G : List Int) (z : Int) : PL s p G z = (if b = 35 then (if 0 < z then none else PL s (p + 1) (bump G) z) else if b = 48 then PL s (p + 1) (bump G) (z + 1) else if b = 44 then (if lastG G = 0 then none else PL s (p + 1) (G ++ [0]) z) else some (p, G, z)) := by
  have hlt := h.lt
  unfold PL
  rw [show ((s.size : Int) - p).toNat = ((s.size : Int) - (p + 1)).toNat + 1 by omega]
  conv => lhs; unfold plF
  rw [h.bt]
  have e : ∀ c : UInt8, ((b.toNat : Int) = (c.toNat : Int)) ↔ b = c := fun c => ⟨fun e => UInt8.toNat_inj.mp (by omega), fun e => by rw [e]⟩
  have e35 := e 35
  have e48 := e 48
  have e44 := e 44
  simp only [show ((35 : UInt8).toNat : Int) = 35 from rfl, show ((48 : UInt8).toNat : Int) = 48 from rfl, show ((44 : UInt8).toNat : Int) = 44 from rfl] at e35 e48 e44
  simp only [e35, e48, e44]
theorem PL_end {s : ByteArray} {p : Int} {r : List UInt8} (h : Dr s p r) (hr : ∀ c q, r = c :: q → c ≠ 35 ∧ c ≠ 48 ∧ c ≠ 44) (G : List Int) (z : Int) : PL s p G z = some (p, G, z) := by
  cases r with
  | nil =>
    have := h.len
    simp only [List.length_nil] at this
    unfold PL
    rw [show ((s.size : Int) - p).toNat = 0 by omega]
    rfl
  | cons c q =>
    obtain ⟨h1, h2, h3⟩ := hr c q rfl
    rw [PL_step h, if_neg h1, if_neg h2, if_neg h3]
theorem PL_hash {s : ByteArray} (P : List Int) : ∀ (k : Nat) (p g : Int) (r : List UInt8), Dr s p (List.replicate k 35 ++ r) → PL s p (P ++ [g]) 0 = PL s (p + k) (P ++ [g + k]) 0
  | 0, p, g, r, h => by rw [show p + ((0 : Nat) : Int) = p by omega, show g + ((0 : Nat) : Int) = g by omega]
  | k + 1, p, g, r, h => by
    rw [List.replicate_succ, List.cons_append] at h
    rw [PL_step h, if_pos rfl, if_neg (by omega), bump_app, PL_hash P k (p + 1) (g + 1) r h.next, show p + 1 + (k : Int) = p + ((k + 1 : Nat) : Int) by omega, show g + 1 + (k : Int) = g + ((k + 1 : Nat) : Int) by omega]
theorem PL_zero {s : ByteArray} (P : List Int) : ∀ (k : Nat) (p g z : Int) (r : List UInt8), Dr s p (List.replicate k 48 ++ r) → PL s p (P ++ [g]) z = PL s (p + k) (P ++ [g + k]) (z + k)
  | 0, p, g, z, r, h => by rw [show p + ((0 : Nat) : Int) = p by omega, show g + ((0 : Nat) : Int) = g by omega, show z + ((0 : Nat) : Int) = z by omega]
  | k + 1, p, g, z, r, h => by
    rw [List.replicate_succ, List.cons_append] at h
    rw [PL_step h, if_neg (by decide), if_pos rfl, bump_app, PL_zero P k (p + 1) (g + 1) (z + 1) r h.next, show p + 1 + (k : Int) = p + ((k + 1 : Nat) : Int) by omega, show g + 1 + (k : Int) = g + ((k + 1 : Nat) : Int) by omega, show z + 1 + (k : Int) = z + ((k + 1 : Nat) : Int) by omega]
theorem PL_raw {s : ByteArray} (P : List Int) {im hi lo p g : Int} {r : List UInt8} (h0 : 0 ≤ im) (h1 : 0 ≤ lo) (h2 : lo ≤ hi) (h : Dr s p (rawD im hi lo ++ r)) : PL s p (P ++ [g]) (mx 0 (im - hi)) = PL s (p + (hi - lo)) (P ++ [g + (hi - lo)]) (mx 0 (im - lo)) ∧ Dr s (p + (hi - lo)) r := by
  have hl := raw_len im hi lo h0 h1 h2
  refine ⟨?_, by have := h.app; rw [hl] at this; exact this⟩
  unfold rawD at h
  rw [List.append_assoc] at h
  by_cases c : im ≤ hi
  · have e0 : mx 0 (im - hi) = 0 := by unfold mx; split <;> omega
    rw [e0, PL_hash P _ p g _ h, ]
    have h' := h.app
    rw [List.length_replicate] at h'
    rw [PL_zero P _ _ _ 0 _ h']
    have q1 : p + ((hi - mx lo im).toNat : Int) + ((mn hi im - lo).toNat : Int) = p + (hi - lo) := by unfold mx mn; (repeat' split) <;> omega
    have q2 : g + ((hi - mx lo im).toNat : Int) + ((mn hi im - lo).toNat : Int) = g + (hi - lo) := by omega
    have q3 : (0 : Int) + ((mn hi im - lo).toNat : Int) = mx 0 (im - lo) := by unfold mx mn; (repeat' split) <;> omega
    rw [q1, q2, q3]
  · have e1 : (hi - mx lo im).toNat = 0 := by unfold mx; split <;> omega
    rw [e1, List.replicate_zero, List.nil_append] at h
    rw [PL_zero P _ p g _ _ h]
    have q1 : p + ((mn hi im - lo).toNat : Int) = p + (hi - lo) := by unfold mn; (repeat' split) <;> omega
    have q2 : g + ((mn hi im - lo).toNat : Int) = g + (hi - lo) := by omega
    have q3 : mx 0 (im - hi) + ((mn hi im - lo).toNat : Int) = mx 0 (im - lo) := by unfold mx mn; (repeat' split) <;> omega
    rw [q1, q2, q3]
theorem PL_comma {s : ByteArray} {P : List Int} {g z p : Int} {r : List UInt8} (hg : g ≠ 0) (h : Dr s p ([44] ++ r)) : PL s p (P ++ [g]) z = PL s (p + 1) (P ++ [g] ++ [0]) z ∧ Dr s (p + 1) r := by
  have h' : Dr s p (44 :: r) := h
  refine ⟨?_, h'.next⟩
  rw [PL_step h', if_neg (by decide), if_neg (by decide), if_pos rfl, last_app, if_neg hg]
def RestOk (r : List UInt8) : Prop := ∃ A B, r = A ++ B ∧ clean A false = some false ∧ (B = [] ∨ ∃ q, B = 42 :: q ∨ B = 59 :: q)
theorem clean_head {b : UInt8} {r : List UInt8} (h : clean (b :: r) false = some false) (hb : b ≠ 39) : b ∉ LETTERS ∧ clean r false = some false := by
  unfold clean at h
  rw [if_neg hb] at h
  by_cases hm : b ∈ LETTERS
  · rw [decide_eq_true hm] at h; exact absurd h (by simp)
  · rw [decide_eq_false hm] at h; exact ⟨hm, h⟩
theorem rest_head {r : List UInt8} (h : RestOk r) : ∀ c q, r = c :: q → c ≠ 35 ∧ c ≠ 48 ∧ c ≠ 44 ∧ c ≠ 46 := by
  rintro c q e
  obtain ⟨A, B, hr, hc, hB⟩ := h
  rw [e] at hr
  cases A with
  | nil =>
    rw [List.nil_append] at hr
    rcases hB with rfl | ⟨q', rfl | rfl⟩
    · exact absurd hr (by simp)
    · obtain ⟨rfl, _⟩ := List.cons.inj hr; decide
    · obtain ⟨rfl, _⟩ := List.cons.inj hr; decide
  | cons b A =>
    obtain ⟨rfl, _⟩ := List.cons.inj hr
    by_cases hb : c = 39
    · subst hb; decide
    · have hm := (clean_head hc hb).1
      refine ⟨?_, ?_, ?_, ?_⟩ <;> (rintro rfl; exact hm (by decide))
theorem rest_tail {c : UInt8} {q : List UInt8} (h : RestOk (c :: q)) (h1 : c ≠ 39) (h2 : c ≠ 42) (h3 : c ≠ 59) : RestOk q := by
  obtain ⟨A, B, hr, hc, hB⟩ := h
  cases A with
  | nil =>
    rw [List.nil_append] at hr
    rcases hB with rfl | ⟨q', rfl | rfl⟩
    · exact absurd hr (by simp)
    · exact absurd (List.cons.inj hr).1 h2
    · exact absurd (List.cons.inj hr).1 h3
  | cons b A =>
    obtain ⟨rfl, e⟩ := List.cons.inj hr
    exact ⟨A, B, e, (clean_head hc h1).2, hB⟩
theorem places_back {s : ByteArray} {x h : Sb} {n p : Int} {r : List UInt8} (hf : Fine x) (hn : leastS x ≤ n) (hd : Dr s p (placesL x n ++ r)) (hr : ∀ c q, r = c :: q → c ≠ 35 ∧ c ≠ 48 ∧ c ≠ 44) (hp : h.pr = 0) (hs : h.se = 0) :
    placesF s p h = some (p + (placesL x n).length, {h with im := x.im, pr := x.pr, se := x.se}) ∧ Dr s (p + (placesL x n).length) r := by
  obtain ⟨i0, i1, _, _, _, _, p0, p1, s0, s1, _, _, hps⟩ := hf
  have hend := hd.app
  refine ⟨?_, hend⟩
  have hl1 : 1 ≤ n := aP51
  have hl2 : x.im ≤ n := aP51
  have z0 : mx 0 (x.im - n) = 0 := by unfold mx; split <;> omega
  have zi : mx 0 (x.im - 0) = x.im := by unfold mx; split <;> omega
  have hgo : ∀ (e : Int) (G : List Int), PL s p ([] ++ [0]) (mx 0 (x.im - n)) = PL s e G (mx 0 (x.im - 0)) → Dr s e r → placesF s p h = (groupF G x.im h).map (fun y => (e, y)) := by
    intro e G h1 h2
    rw [z0, zi, PL_end h2 hr] at h1
    show (PL s p [0] 0).bind _ = _
    rw [show PL s p [0] 0 = _ from h1]
    rfl
  have eend : ∀ e : Int, Dr s e r → e = p + (placesL x n).length := fun e he => by have a := he.len; have b := hend.len; omega
  have hd0 := hd
  unfold placesL at hd
  by_cases hpr : 0 < x.pr
  · have hn3 : x.pr + x.se + 1 ≤ n := aP52
    rw [if_pos hpr] at hd
    by_cases hse : 0 < x.se
    · rw [if_pos hse] at hd
      simp only [List.append_assoc] at hd
      obtain ⟨e1, d1⟩ := PL_raw [] (g := 0) i0 (by omega) (by omega) hd
      obtain ⟨e2, d2⟩ := PL_comma (P := []) (z := mx 0 (x.im - (x.pr + x.se))) (show (0 : Int) + (n - (x.pr + x.se)) ≠ 0 by omega) d1
      obtain ⟨e3, d3⟩ := PL_raw ([] ++ [0 + (n - (x.pr + x.se))]) (g := 0) i0 p0 (by omega) d2
      obtain ⟨e4, d4⟩ := PL_comma (P := [] ++ [0 + (n - (x.pr + x.se))]) (z := mx 0 (x.im - x.pr)) (show (0 : Int) + (x.pr + x.se - x.pr) ≠ 0 by omega) d3
      obtain ⟨e5, d5⟩ := PL_raw ([] ++ [0 + (n - (x.pr + x.se))] ++ [0 + (x.pr + x.se - x.pr)]) (g := 0) i0 (Int.le_refl 0) p0 d4
      rw [hgo _ _ (e1.trans (e2.trans (e3.trans (e4.trans e5)))) d5]
      unfold groupF
      rw [last_app]
      have hc : (decide (3 < ([] ++ [0 + (n - (x.pr + x.se))] ++ [0 + (x.pr + x.se - x.pr)] ++ [0 + (x.pr - 0)] : List Int).length) || (0 + (x.pr - 0) == 0)) = false := by
        rw [beq_eq_false_iff_ne.mpr (by omega)]; rfl
      rw [hc, if_neg (by decide)]
      show some (_, _) = some (_, _)
      rw [eend _ d5, show (0 : Int) + (x.pr - 0) = x.pr by omega]
      have e6 : rd ([] ++ [0 + (n - (x.pr + x.se))] ++ [0 + (x.pr + x.se - x.pr)] ++ [x.pr] : List Int) 1 = x.se := by
        show (0 : Int) + (x.pr + x.se - x.pr) = x.se
        omega
      rw [e6]
      rfl
    · rw [if_neg hse] at hd
      simp only [List.append_assoc] at hd
      obtain ⟨e1, d1⟩ := PL_raw [] (g := 0) i0 p0 (by omega) hd
      obtain ⟨e2, d2⟩ := PL_comma (P := []) (z := mx 0 (x.im - x.pr)) (show (0 : Int) + (n - x.pr) ≠ 0 by omega) d1
      obtain ⟨e3, d3⟩ := PL_raw ([] ++ [0 + (n - x.pr)]) (g := 0) i0 (Int.le_refl 0) p0 d2
      rw [hgo _ _ (e1.trans (e2.trans e3)) d3]
      unfold groupF
      rw [last_app]
      have hc : (decide (3 < ([] ++ [0 + (n - x.pr)] ++ [0 + (x.pr - 0)] : List Int).length) || (0 + (x.pr - 0) == 0)) = false := by
        rw [beq_eq_false_iff_ne.mpr (by omega)]; rfl
      rw [hc, if_neg (by decide)]
      show some (_, _) = some (_, _)
      rw [eend _ d3, show (0 : Int) + (x.pr - 0) = x.pr by omega, show x.se = h.se by omega]
      rfl
  · rw [if_neg hpr] at hd
    obtain ⟨e1, d1⟩ := PL_raw [] (g := 0) i0 (Int.le_refl 0) (by omega) hd
    rw [hgo _ _ e1 d1]
    unfold groupF
    rw [last_app]
    have hc : (decide (3 < ([] ++ [0 + (n - 0)] : List Int).length) || (0 + (n - 0) == 0)) = false := by
      rw [beq_eq_false_iff_ne.mpr (by omega)]; rfl
    have hpr0 : x.pr = 0 := by omega
    rw [hc, if_neg (by decide)]
    show some (_, _) = some (_, _)
    rw [eend _ d1, show x.se = h.se by rw [hps hpr0, hs], show x.pr = h.pr by omega]
    rfl
theorem frac_back {s : ByteArray} {x h : Sb} {p : Int} {r : List UInt8} (hf : Fine x) (hd : Dr s p (fracL x ++ r)) (hr : ∀ c q, r = c :: q → c ≠ 35 ∧ c ≠ 48 ∧ c ≠ 46) (h1 : h.fn = 0) (h2 : h.fx = 0) :
    fracF s p h = some (p + (fracL x).length, {h with fn := x.fn, fx := x.fx}) ∧ Dr s (p + (fracL x).length) r := by
  have hend := hd.app
  refine ⟨?_, hend⟩
  have hlen := hd.len
  have f0 := hf.fx0
  have f1 := hf.fn0
  have f2 := hf.fn1
  unfold fracL at hd
  unfold fracF
  by_cases c : 0 < x.fx
  · rw [if_pos c] at hd
    simp only [List.append_assoc] at hd
    have hd' : Dr s p (46 :: (List.replicate x.fn.toNat 48 ++ (List.replicate (x.fx - x.fn).toNat 35 ++ r))) := hd
    have r1 : runN s 48 (p + 1) = x.fn := by
      have := runN_reps 48 x.fn.toNat (p + 1) _ hd'.next (by
        intro c q e
        cases hk : (x.fx - x.fn).toNat with
        | zero => rw [hk, List.replicate_zero, List.nil_append] at e; exact (hr c q e).2.1
        | succ k => rw [hk, List.replicate_succ, List.cons_append] at e; obtain ⟨rfl, _⟩ := List.cons.inj e; decide)
      have e48 : ((48 : UInt8).toNat : Int) = 48 := rfl
      rw [e48] at this
      omega
    have d2 := hd'.next.app
    rw [List.length_replicate, show p + 1 + (x.fn.toNat : Int) = p + 1 + x.fn by omega] at d2
    have r2 : runN s 35 (p + 1 + x.fn) = x.fx - x.fn := by
      have := runN_reps 35 (x.fx - x.fn).toNat (p + 1 + x.fn) _ d2 (fun c q e => (hr c q e).1)
      have e35 : ((35 : UInt8).toNat : Int) = 35 := rfl
      rw [e35] at this
      omega
    have hb : bAt s p 46 = true := by
      have := hd'.at_ 46
      rw [decide_eq_true rfl] at this
      exact this
    have hz : (x.fn + (x.fx - x.fn) == 0) = false := beq_eq_false_iff_ne.mpr (by omega)
    rw [if_pos hb, r1, r2, hz, if_neg (by decide)]
    have hL : ((fracL x).length : Int) = 1 + x.fx := by
      unfold fracL
      rw [if_pos c]
      simp only [List.length_append, List.length_replicate, List.length_cons, List.length_nil]
      omega
    rw [hL, show x.fn + (x.fx - x.fn) = x.fx by omega, show p + 1 + x.fn + (x.fx - x.fn) = p + (1 + x.fx) by omega]
  · rw [if_neg c, List.nil_append] at hd
    have hb : bAt s p 46 = false := hd.at_no 46 (fun c q e => (hr c q e).2.2)
    rw [hb, if_neg (by decide)]
    have hL : ((fracL x).length : Int) = 0 := by unfold fracL; rw [if_neg c]; rfl
    rw [hL, Int.add_zero, show x.fx = h.fx by omega, show x.fn = h.fn by omega]
theorem exp_back {s : ByteArray} {x h : Sb} {p : Int} {r : List UInt8} (hf : Fine x) (he : x.em = 0 → x.ep = false) (hd : Dr s p (expL x ++ r)) (hr : RestOk r) (h1 : h.em = 0) (h2 : h.ep = false) :
    expF s p h = (p + (expL x).length, {h with em := x.em, ep := x.ep}) ∧ Dr s (p + (expL x).length) r := by
  have hend := hd.app
  refine ⟨?_, hend⟩
  have m0 := hf.em0
  have p0 := hd.p0
  unfold expL at hd
  unfold expF
  by_cases c : 0 < x.em
  · rw [if_pos c] at hd
    simp only [List.append_assoc] at hd
    have hd' : Dr s p (69 :: ((if x.ep = true then [43] else []) ++ (List.replicate x.em.toNat 48 ++ r))) := hd
    obtain ⟨k, hk⟩ : ∃ k, x.em.toNat = k + 1 := ⟨x.em.toNat - 1, by omega⟩
    have b69 : bAt s p 69 = true := by have := hd'.at_ 69; rw [decide_eq_true rfl] at this; exact this
    have d1 := hd'.next
    have key : bAt s (p + 1) 43 = x.ep ∧ nextP s (p + 1) 43 = p + 1 + (if x.ep = true then 1 else 0) ∧ Dr s (p + 1 + (if x.ep = true then 1 else 0)) (List.replicate x.em.toNat 48 ++ r) ∧ expB s p = true := by
      cases hp : x.ep with
      | true =>
        rw [hp] at d1
        have d2 : Dr s (p + 1) (43 :: (List.replicate x.em.toNat 48 ++ r)) := d1
        have b43 : bAt s (p + 1) 43 = true := by have := d2.at_ 43; rw [decide_eq_true rfl] at this; exact this
        have d3 := d2.next
        have b48 : bAt s (p + 1 + 1) 48 = true := by
          have d4 := d3
          rw [hk, List.replicate_succ, List.cons_append] at d4
          have := d4.at_ 48; rw [decide_eq_true rfl] at this; exact this
        refine ⟨b43, nextP_yes b43, d3, ?_⟩
        rw [expB_at s p p0, b69, b43, show p + 2 = p + 1 + 1 by omega, b48]
        simp
      | false =>
        rw [hp] at d1
        have d2 : Dr s (p + 1) (List.replicate x.em.toNat 48 ++ r) := d1
        have d4 := d2
        rw [hk, List.replicate_succ, List.cons_append] at d4
        have b48 : bAt s (p + 1) 48 = true := by have := d4.at_ 48; rw [decide_eq_true rfl] at this; exact this
        have b43 : bAt s (p + 1) 43 = false := by have := d4.at_ 43; rw [decide_eq_false (by decide)] at this; exact this
        refine ⟨b43, ?_, ?_, ?_⟩
        · rw [nextP_no b43]; simp
        · simpa using d2
        · rw [expB_at s p p0, b69, b48]; rfl
    obtain ⟨k1, k2, k3, k4⟩ := key
    have r1 : runN s 48 (p + 1 + (if x.ep = true then 1 else 0)) = x.em := by
      have := runN_reps 48 x.em.toNat _ _ k3 (fun c q e => (rest_head hr c q e).2.1)
      have e48 : ((48 : UInt8).toNat : Int) = 48 := rfl
      rw [e48] at this
      omega
    have hL : ((expL x).length : Int) = 1 + (if x.ep = true then 1 else 0) + x.em := by
      unfold expL
      rw [if_pos c]
      simp only [List.length_append, List.length_replicate, List.length_cons, List.length_nil]
      split <;> (simp only [List.length_cons, List.length_nil]; omega)
    rw [k4, if_pos rfl, k2, r1, k1, hL]
    congr 1
    omega
  · rw [if_neg c, List.nil_append] at hd
    have hz : x.em = 0 := by omega
    have hb : expB s p = false := by
      rw [expB_at s p p0]
      cases r with
      | nil => rw [hd.at_nil]; rfl
      | cons c1 q1 =>
        by_cases e1 : c1 = 69
        · subst e1
          have q1ok := rest_tail hr (by decide) (by decide) (by decide)
          have d1 := hd.next
          have n48 : bAt s (p + 1) 48 = false := d1.at_no 48 (fun c q e => (rest_head q1ok c q e).2.1)
          rw [n48, Bool.false_or]
          cases q1 with
          | nil => rw [d1.at_nil 43, Bool.false_and, Bool.and_false]
          | cons c2 q2 =>
            by_cases e2 : c2 = 43
            · subst e2
              have q2ok := rest_tail q1ok (by decide) (by decide) (by decide)
              have d2 := d1.next
              have n48' : bAt s (p + 2) 48 = false := by
                rw [show p + 2 = p + 1 + 1 by omega]
                exact d2.at_no 48 (fun c q e => (rest_head q2ok c q e).2.1)
              rw [n48', Bool.and_false, Bool.and_false]
            · have := d1.at_ 43
              rw [decide_eq_false e2] at this
              rw [show bAt s (p + 1) 43 = false from this, Bool.false_and, Bool.and_false]
        · have := hd.at_ 69
          rw [decide_eq_false e1] at this
          rw [show bAt s p 69 = false from this]
          rfl
    have hL : ((expL x).length : Int) = 0 := by unfold expL; rw [if_neg c]; rfl
    rw [hb, if_neg (by decide), hL, Int.add_zero, show x.em = h.em by omega, show x.ep = h.ep by rw [he hz, h2]]
end Go.Proofs.Ytacnjemndfmbhaa.Q
end
section
namespace Go.Proofs.Ytacnjemndfmbhaa.Q
open Go.RowKit Go.Proofs.Ytacnjemndfmbhaa.A Go.Proofs.Ytacnjemndfmbhaa.R1 Go.Proofs.YtacnjemndfmbhaaW.PrintWords Go.Proofs.YtacnjemndfmbhaaW.PrintLast Go.Proofs.YtacnjemndfmbhaaW.PrintMore
set_option linter.unusedVariables false
set_option linter.unusedSimpArgs false
theorem stops_letters : ∀ n : Fin 256, stopB stops1 ((UInt8.ofNat n).toNat : Int) = decide (UInt8.ofNat n ∈ LETTERS) ∧ (stopB stops2 ((UInt8.ofNat n).toNat : Int) = true → UInt8.ofNat n ∈ LETTERS) := by decide +kernel
theorem stop1 (b : UInt8) : stopB stops1 (b.toNat : Int) = decide (b ∈ LETTERS) := by
  have := (stops_letters ⟨b.toNat, b.toNat_lt⟩).1
  simpa only [UInt8.ofNat_toNat] using this
theorem stop2 (b : UInt8) : stopB stops2 (b.toNat : Int) = true → b ∈ LETTERS := by
  have := (stops_letters ⟨b.toNat, b.toNat_lt⟩).2
  simpa only [UInt8.ofNat_toNat] using this
theorem stop_clean {s st : ByteArray} (hst : ∀ b : UInt8, stopB st (b.toNat : Int) = true → b ∈ LETTERS) : ∀ (A : List UInt8) (q q' : Bool) (p : Int) (r : List UInt8), Dr s p (A ++ r) → clean A q = some q' → stopF s st ((s.size : Int) - p).toNat q p = stopF s st ((s.size : Int) - (p + A.length)).toNat q' (p + A.length)
  | [], q, q', p, r, hd, hc => by
    obtain rfl := Option.some.inj hc
    rw [show p + (([] : List UInt8).length : Int) = p by simp]
  | b :: A, q, q', p, r, hd, hc => by
    rw [List.cons_append] at hd
    have hlt := hd.lt
    have ih := fun q hc => stop_clean hst A q q' (p + 1) r hd.next hc
    rw [show ((s.size : Int) - p).toNat = ((s.size : Int) - (p + 1)).toNat + 1 by omega]
    conv => lhs; unfold stopF
    rw [hd.bt]
    unfold clean at hc
    have e39 : ((b.toNat : Int) = 39) ↔ b = 39 := ⟨fun e => UInt8.toNat_inj.mp (by show b.toNat = 39; omega), fun e => by rw [e]; rfl⟩
    rw [List.length_cons, show p + ((A.length + 1 : Nat) : Int) = p + 1 + (A.length : Int) by omega]
    by_cases hb : b = 39
    · rw [if_pos hb] at hc
      rw [if_pos (e39.mpr hb)]
      exact ih _ hc
    · rw [if_neg hb] at hc
      rw [if_neg (fun e => hb (e39.mp e))]
      by_cases hm : (!q && decide (b ∈ LETTERS)) = true
      · rw [if_pos hm] at hc; exact absurd hc (by simp)
      · rw [if_neg hm] at hc
        rw [if_neg, ih _ hc]
        intro h
        rw [Bool.and_eq_true] at h
        exact hm (by rw [h.1, decide_eq_true (hst b h.2)]; rfl)
theorem stopN_clean {s st : ByteArray} (hst : ∀ b : UInt8, stopB st (b.toNat : Int) = true → b ∈ LETTERS) {A r : List UInt8} {p : Int} (hd : Dr s p (A ++ r)) (hc : clean A false = some false) (hr : r = [] ∨ ∃ c q, r = c :: q ∧ c ≠ 39 ∧ stopB st (c.toNat : Int) = true) : stopN s st p = p + A.length := by
  unfold stopN
  rw [stop_clean hst A false false p r hd hc]
  have h2 := hd.app
  rcases hr with rfl | ⟨c, q, rfl, h39, hs⟩
  · have := h2.len
    simp only [List.length_nil] at this
    rw [show ((s.size : Int) - (p + A.length)).toNat = 0 by omega]
    rfl
  · have := h2.lt
    rw [show ((s.size : Int) - (p + A.length)).toNat = ((s.size : Int) - (p + A.length + 1)).toNat + 1 by omega]
    unfold stopF
    rw [h2.bt, hs, if_neg, if_pos (show (!false && true) = true from rfl)]
    intro e
    exact h39 (UInt8.toNat_inj.mp (by show c.toNat = 39; omega))
theorem tok_back {s st : ByteArray} (hst : ∀ b : UInt8, stopB st (b.toNat : Int) = true → b ∈ LETTERS) {l : List S53} {r : List UInt8} {p : Int} (hk : checkS l = 0) (hd : Dr s p ((printT l).1.data.toList ++ r)) (hr : r = [] ∨ ∃ c q, r = c :: q ∧ c ≠ 39 ∧ stopB st (c.toNat : Int) = true) : stopN s st p = p + (printT l).1.data.toList.length ∧ tokT s st p = (l, 0) := by
  have h1 := stopN_clean hst hd (print_clean l) hr
  refine ⟨h1, ?_⟩
  unfold tokT
  rw [h1, hd.ext, ← bytes_of (printT l).1 _ rfl, parse_print l hk]
def padAt (x : Sb) (k : Int) : ByteArray × Int := if x.pad.toList.isEmpty = false ∧ x.pa ≤ k then (x.pad, x.pa) else (⟨#[]⟩, 0)
theorem pad_empty {b : ByteArray} (h : b.toList.isEmpty = true) : b = ⟨#[]⟩ := nil_of b (List.isEmpty_iff.mp h)
theorem one_rune {b : ByteArray} (h : R1.runesS b = 1) : R1.runeS b 0 = b.size ∧ b.size ≠ 0 := by
  unfold R1.runesS at h
  cases hc : cnt b (b.size + 1) 0 with
  | none => rw [hc] at h; exact absurd h (by decide)
  | some r =>
    rw [hc] at h
    have hr : r = 1 := h
    subst hr
    rw [cnt_succ] at hc
    by_cases h0 : (0 : Int) < b.size
    · rw [if_pos h0] at hc
      by_cases hz : R1.runeS b 0 = 0
      · rw [if_pos hz] at hc; exact absurd hc (by simp)
      · rw [if_neg hz] at hc
        obtain ⟨q, hq, h1⟩ := Option.map_eq_some_iff.mp hc
        have hq0 : q = 0 := by omega
        subst hq0
        have hp := rune_pos b 0 hz
        obtain ⟨n, hn⟩ : ∃ n, b.size = n + 1 := ⟨b.size - 1, by omega⟩
        rw [hn, cnt_succ] at hq
        by_cases hl : 0 + R1.runeS b 0 < b.size
        · rw [if_pos hl] at hq
          by_cases hz2 : R1.runeS b (0 + R1.runeS b 0) = 0
          · rw [if_pos hz2] at hq; exact absurd hq (by simp)
          · rw [if_neg hz2] at hq
            obtain ⟨q2, hq2, h2⟩ := Option.map_eq_some_iff.mp hq
            have hp2 := rune_pos b _ hz2
            have := (cnt_range b n _ q2 (by omega) (by omega) hq2).1
            omega
        · omega
    · rw [if_neg h0] at hc; exact absurd hc (by simp)
theorem rune_at {s b : ByteArray} {p : Int} {r : List UInt8} (hd : Dr s p (b.data.toList ++ r)) (h : runesS b = 1) : runeS s p = b.size := by
  rw [runesS_eq] at h
  obtain ⟨h1, h2⟩ := one_rune h
  have h0 := hd.p0
  have hl : s.data.toList.length = s.size := rfl
  obtain ⟨u, hu⟩ : ∃ u : ByteArray, u = ⟨(s.data.toList.take p.toNat).toArray⟩ := ⟨_, rfl⟩
  have hus : (u.size : Int) = p := by
    rw [hu]
    show ((s.data.toList.take p.toNat).toArray.size : Int) = p
    have := hd.p1
    simp only [List.size_toArray, List.length_take]
    omega
  have hs : s = u ++ (b ++ ⟨r.toArray⟩) := by
    apply bytes_inj
    rw [ByteArray.data_append, ByteArray.data_append, Array.toList_append, Array.toList_append, hu]
    show _ = s.data.toList.take p.toNat ++ (b.data.toList ++ r)
    rw [← hd.eq, List.take_append_drop]
  have hz : R1.runeS b 0 ≠ 0 := by omega
  have e := runeS_right u (b ++ ⟨r.toArray⟩) (Int.le_refl 0)
  rw [← hs, Int.add_zero, hus] at e
  rw [e, runeS_eq, runeS_app_left b _ 0 hz, h1]
theorem fill_data (x : Sb) (k : Int) : (fillS x k).data.toList = if x.pad.toList.isEmpty = true then [] else if x.pa = k then 42 :: x.pad.data.toList else [] := by
  unfold fillS
  split
  · rfl
  · split
    · rw [ByteArray.data_append, Array.toList_append]; rfl
    · rfl
theorem fill_back {s : ByteArray} {x h : Sb} {k p : Int} {r : List UInt8} (hx : x.pad.toList.isEmpty = true ∨ runesS x.pad = 1) (hd : Dr s p ((fillS x k).data.toList ++ r)) (hr : (fillS x k).data.toList = [] → ∀ c q, r = c :: q → c ≠ 42) (hh : (h.pad, h.pa) = padAt x (k - 1)) :
    fillF s p h k = some (p + (fillS x k).data.toList.length, {h with pad := (padAt x k).1, pa := (padAt x k).2}) := by
  have hh1 : h.pad = (padAt x (k - 1)).1 := congrArg Prod.fst hh
  have hh2 : h.pa = (padAt x (k - 1)).2 := congrArg Prod.snd hh
  by_cases hc : x.pad.toList.isEmpty = false ∧ x.pa = k
  · have hf : (fillS x k).data.toList = 42 :: x.pad.data.toList := by rw [fill_data, if_neg (by rw [hc.1]; decide), if_pos hc.2]
    rw [hf] at hd ⊢
    have hd' : Dr s p (42 :: (x.pad.data.toList ++ r)) := hd
    have hp1 : runesS x.pad = 1 := by
      rcases hx with h1 | h1
      · rw [hc.1] at h1; exact absurd h1 (by decide)
      · exact h1
    have hru := rune_at hd'.next hp1
    have hpe : h.pad = ⟨#[]⟩ := by rw [hh1]; unfold padAt; rw [if_neg (by omega)]
    have hsz : x.pad.size ≠ 0 := by
      intro e
      have : x.pad = ⟨#[]⟩ := bytes_of _ [] (List.eq_nil_of_length_eq_zero (show x.pad.data.toList.length = 0 from e))
      rw [this] at hc
      exact absurd hc.1 (by decide +kernel)
    have hb : bAt s p 42 = true := by have := hd'.at_ 42; rw [decide_eq_true rfl] at this; exact this
    unfold fillF
    rw [if_pos hb, hru, if_neg]
    · have he := hd'.next.ext
      have hl : (x.pad.data.toList.length : Int) = x.pad.size := rfl
      rw [hl] at he
      rw [he, ← bytes_of x.pad _ rfl]
      unfold padAt
      rw [if_pos ⟨hc.1, by omega⟩, List.length_cons]
      have e1 : p + 1 + (x.pad.size : Int) = p + ((x.pad.data.toList.length + 1 : Nat) : Int) := by omega
      rw [e1, hc.2]
    · rw [hpe]
      intro e
      rw [Bool.or_eq_true] at e
      rcases e with e | e
      · have := beq_iff_eq.mp e; omega
      · exact absurd e (by decide +kernel)
  · have hf : (fillS x k).data.toList = [] := by
      rw [fill_data]
      cases he : x.pad.toList.isEmpty with
      | true => rfl
      | false => rw [if_neg (by decide), if_neg (fun e => hc ⟨he, e⟩)]
    rw [hf, List.nil_append] at hd
    have hb : bAt s p 42 = false := hd.at_no 42 (hr hf)
    have hpk : padAt x (k - 1) = padAt x k := by
      unfold padAt
      by_cases he : x.pad.toList.isEmpty = false
      · have hne : x.pa ≠ k := fun e => hc ⟨he, e⟩
        by_cases hle : x.pa ≤ k
        · rw [if_pos ⟨he, by omega⟩, if_pos ⟨he, hle⟩]
        · rw [if_neg (by omega), if_neg (by omega)]
      · rw [if_neg (fun e => he e.1), if_neg (fun e => he e.1)]
    unfold fillF
    rw [hb, if_neg (by decide), hf, ← hpk, ← hh1, ← hh2]
    simp
theorem digL_len {x : Sb} {n : Int} (hf : Fine x) (hn : leastS x ≤ n) : ((digL x n).length : Int) = n + (((if 0 < x.pr then (if 0 < x.se then 2 else 1) else 0 : Nat) : Int) + (fracL x).length + (expL x).length) := by
  obtain ⟨i0, i1, _, _, _, _, p0, p1, s0, s1, _, _, hps⟩ := hf
  have hl1 : 1 ≤ n := aP51
  unfold digL placesL
  by_cases hpr : 0 < x.pr
  · have hn3 : x.pr + x.se + 1 ≤ n := aP52
    rw [if_pos hpr, if_pos hpr]
    by_cases hse : 0 < x.se
    · rw [if_pos hse, if_pos hse]
      have a1 := raw_len x.im n (x.pr + x.se) i0 (by omega) (by omega)
      have a2 := raw_len x.im (x.pr + x.se) x.pr i0 p0 (by omega)
      have a3 := raw_len x.im x.pr 0 i0 (Int.le_refl 0) p0
      simp only [List.length_append, List.length_cons, List.length_nil]
      omega
    · rw [if_neg hse, if_neg hse]
      have a1 := raw_len x.im n x.pr i0 p0 (by omega)
      have a3 := raw_len x.im x.pr 0 i0 (Int.le_refl 0) p0
      simp only [List.length_append, List.length_cons, List.length_nil]
      omega
  · rw [if_neg hpr, if_neg hpr]
    have a3 := raw_len x.im n 0 i0 (Int.le_refl 0) (by omega)
    simp only [List.length_append]
    omega
theorem places_head {x : Sb} {n : Int} (hf : Fine x) (hn : leastS x ≤ n) : ∃ c q, placesL x n = c :: q ∧ (c = 35 ∨ c = 48) := by
  obtain ⟨i0, i1, _, _, _, _, p0, p1, s0, s1, _, _, hps⟩ := hf
  have hl1 : 1 ≤ n := aP51
  have raw : ∀ lo, 0 ≤ lo → lo < n → ∀ t, ∃ c q, rawD x.im n lo ++ t = c :: q ∧ (c = 35 ∨ c = 48) := by
    intro lo h0 h1 t
    have hl := raw_len x.im n lo i0 h0 (by omega)
    cases hr : rawD x.im n lo with
    | nil => rw [hr] at hl; simp at hl; omega
    | cons c q =>
      refine ⟨c, q ++ t, rfl, ?_⟩
      have hm : c ∈ rawD x.im n lo := by rw [hr]; simp
      unfold rawD at hm
      rcases List.mem_append.mp hm with hm | hm
      · exact .inl (List.eq_of_mem_replicate hm)
      · exact .inr (List.eq_of_mem_replicate hm)
  unfold placesL
  by_cases hpr : 0 < x.pr
  · have hn3 : x.pr + x.se + 1 ≤ n := aP52
    rw [if_pos hpr]
    by_cases hse : 0 < x.se
    · rw [if_pos hse]
      simp only [List.append_assoc]
      exact raw _ (by omega) (by omega) _
    · rw [if_neg hse]
      simp only [List.append_assoc]
      exact raw _ (by omega) (by omega) _
  · rw [if_neg hpr]
    have := raw 0 (Int.le_refl 0) (by omega) []
    rwa [List.append_nil] at this
structure HalfOk (x : Sb) : Prop where
  cp : checkS x.p = 0
  cs : checkS x.s = 0
  fine : Fine x
  ep : x.em = 0 → x.ep = false
  wide : leastS x ≤ wideS x
  pad : x.pad.toList.isEmpty = true ∨ runesS x.pad = 1
  none : x.pad.toList.isEmpty = true → x.pa = 0 ∧ x.wd = 0
  some : x.pad.toList.isEmpty = false → 0 ≤ x.pa ∧ x.pa ≤ 3 ∧ (x.pa = 1 → x.p ≠ []) ∧ (x.pa = 3 → x.s ≠ []) ∧ x.wd = runesT x.p + (digL x (wideS x)).length + runesT x.s ∧ x.wd ≤ 99
theorem half_ok {x : Sb} (h : halfS x = true) : HalfOk x := by
  unfold halfS at h
  simp only [Bool.and_eq_true, beq_iff_eq, Bool.not_eq_true'] at h
  obtain ⟨h1, h2, h3, h4, h5⟩ := h
  have hf := fine_of h3 h4
  have hep : x.em = 0 → x.ep = false := by
    intro e
    unfold oddB at h4
    simp only [Bool.or_eq_false_iff, Bool.and_eq_false_iff] at h4
    rcases h4.2.1 with h | h
    · rw [e] at h; exact absurd h (by decide)
    · exact h
  unfold padB at h5
  cases he : x.pad.toList.isEmpty with
  | true =>
    rw [he, if_pos rfl] at h5
    simp only [Bool.and_eq_true, beq_iff_eq] at h5
    exact ⟨h1, h2, hf, hep, by unfold wideS; rw [if_pos he]; exact Int.le_refl _, .inl he, fun _ => h5, fun e => by rw [he] at e; exact absurd e (by decide)⟩
  | false =>
    rw [he, if_neg (by decide)] at h5
    simp only [Bool.and_eq_true, beq_iff_eq, Bool.not_eq_true', inB, decide_eq_true_eq, edgeB, Bool.or_eq_false_iff, Bool.and_eq_false_iff, beq_eq_false_iff_ne] at h5
    obtain ⟨k1, ⟨k2, k3⟩, ⟨k4, k5⟩, k6, k7⟩ := h5
    have hw : wideS x = leastS x + (x.wd - lengthS x (leastS x)) := by unfold wideS; rw [if_neg (by rw [he]; decide)]
    refine ⟨h1, h2, hf, hep, by omega, .inr k1, fun e => by rw [he] at e; exact absurd e (by decide), fun _ => ⟨k2, k3, ?_, ?_, ?_, k7⟩⟩
    · intro e1 e2
      rcases k4 with k | k
      · exact k e1
      · exact k (by rw [e2]; rfl)
    · intro e1 e2
      rcases k5 with k | k
      · exact k e1
      · exact k (by rw [e2]; rfl)
    · have a := digL_len hf (n := leastS x) (Int.le_refl _)
      have b := digL_len hf (n := wideS x) (by omega)
      unfold lengthS at hw k6
      omega
end Go.Proofs.Ytacnjemndfmbhaa.Q
end
